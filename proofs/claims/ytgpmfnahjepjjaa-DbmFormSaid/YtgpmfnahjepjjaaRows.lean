/-
  No cell of these rows narrows 'for every input' (looked for: loops, veiled, ifaces, maps, wideKeys, modest, calm, conditions, laid).
  DERIVED. THE GIVEN ROWS OF THIS SEAT. 7 by the template 'for every input the law returns true; each argument reads behind the call as it read before'; 0 by the template 'total and deterministic' (their statements: YtgpmfnahjepjjaaTotals.lean).
  GIVEN WITH THE SEED: the statements are not yours to turn. If you find one false, say at which input.
  Laid BY PROGRAM, IN A SANDBOX (cutbox-rows.mjs): the forced cells as the released guide's own fill.sh prints them over the translation b9a7bd564a10cd90… (all of the seat's roots in one cut). By AI agents, Wed Nov 11 2026. No macro, syntax, notation, axiom, sorry.
-/
import Derived.Test.YtgpmfnahjepjjaaChecked
import GoSem.Claim
import GoSem.ClaimJoined
import GoSem.ClaimMapViews
import Derived.JoinedTies
import Derived.KernelRfl
namespace Go.Proofs.Ytgpmfnahjepjjaa
/- THE CELL 'sum', in the pinned program and in every row, IS THE sha256 OF THE DUMP (.gsa) THAT YtgpmfnahjepjjaaProg.lean LOADS. Nothing in Lean hashes anything: it is a label: what it is worth is what the hold of that sum in a sandbox is worth. -/
noncomputable def Try.pinned : Pinned := { name := "ytgpmfnahjepjjaa", sum := "b9a7bd564a10cd90ab899d5155a041dc1cf0f1d7de196c4136f3c57fb3d4a3a6", checked := Try.checked }
namespace Rows
def none {H : Type} : Left H := { results := [], args := [] }

/-- 'gnomonlaw03.DbmMakes': WHATEVER THE INPUT: true; the input reads as it did. -/
def dbmMakesSpec : ChangeSpec := { name := "dbmMakes", fn := fun _ => fun
  | [d1, d2, d3] => { results := [.lit (.bool true)], args := [d1, d2, d3] }
  | _ => none }
def dbmMakesRow : OpenClaim := { program := "ytgpmfnahjepjjaa", sum := "b9a7bd564a10cd90ab899d5155a041dc1cf0f1d7de196c4136f3c57fb3d4a3a6", func := "gnomon/gnomonlaw03.DbmMakes", spec := "dbmMakes", apart := false }
def DbmMakesSaid : Prop := dbmMakesRow.holds Try.pinned (OpenSpec.ofChange dbmMakesSpec)

/-- ITS FALSE NEIGHBOUR: 'it returns false'. Refute it at one input. -/
def dbmMakesWrong : ChangeSpec := { name := "dbmMakes", fn := fun _ => fun
  | [d1, d2, d3] => { results := [.lit (.bool false)], args := [d1, d2, d3] }
  | _ => none }
def DbmMakesWrongFalsely : Prop := dbmMakesRow.holds Try.pinned (OpenSpec.ofChange dbmMakesWrong)

/-- 'gnomonlaw03.DbmCells': WHATEVER THE INPUT: true; the input reads as it did. -/
def dbmCellsSpec : ChangeSpec := { name := "dbmCells", fn := fun _ => fun
  | [d1, d2, d3] => { results := [.lit (.bool true)], args := [d1, d2, d3] }
  | _ => none }
def dbmCellsRow : OpenClaim := { program := "ytgpmfnahjepjjaa", sum := "b9a7bd564a10cd90ab899d5155a041dc1cf0f1d7de196c4136f3c57fb3d4a3a6", func := "gnomon/gnomonlaw03.DbmCells", spec := "dbmCells", apart := false }
def DbmCellsSaid : Prop := dbmCellsRow.holds Try.pinned (OpenSpec.ofChange dbmCellsSpec)

/-- ITS FALSE NEIGHBOUR: 'it returns false'. Refute it at one input. -/
def dbmCellsWrong : ChangeSpec := { name := "dbmCells", fn := fun _ => fun
  | [d1, d2, d3] => { results := [.lit (.bool false)], args := [d1, d2, d3] }
  | _ => none }
def DbmCellsWrongFalsely : Prop := dbmCellsRow.holds Try.pinned (OpenSpec.ofChange dbmCellsWrong)

/-- 'gnomonlaw03.DbmOwn': WHATEVER THE INPUT: true; the input reads as it did. -/
def dbmOwnSpec : ChangeSpec := { name := "dbmOwn", fn := fun _ => fun
  | [d1, d2] => { results := [.lit (.bool true)], args := [d1, d2] }
  | _ => none }
def dbmOwnRow : OpenClaim := { program := "ytgpmfnahjepjjaa", sum := "b9a7bd564a10cd90ab899d5155a041dc1cf0f1d7de196c4136f3c57fb3d4a3a6", func := "gnomon/gnomonlaw03.DbmOwn", spec := "dbmOwn", apart := false }
def DbmOwnSaid : Prop := dbmOwnRow.holds Try.pinned (OpenSpec.ofChange dbmOwnSpec)

/-- ITS FALSE NEIGHBOUR: 'it returns false'. Refute it at one input. -/
def dbmOwnWrong : ChangeSpec := { name := "dbmOwn", fn := fun _ => fun
  | [d1, d2] => { results := [.lit (.bool false)], args := [d1, d2] }
  | _ => none }
def DbmOwnWrongFalsely : Prop := dbmOwnRow.holds Try.pinned (OpenSpec.ofChange dbmOwnWrong)

/-- 'gnomonlaw03.DbmKeys': WHATEVER THE INPUT: true; the input reads as it did. -/
def dbmKeysSpec : ChangeSpec := { name := "dbmKeys", fn := fun _ => fun
  | [d1, d2, d3] => { results := [.lit (.bool true)], args := [d1, d2, d3] }
  | _ => none }
def dbmKeysRow : OpenClaim := { program := "ytgpmfnahjepjjaa", sum := "b9a7bd564a10cd90ab899d5155a041dc1cf0f1d7de196c4136f3c57fb3d4a3a6", func := "gnomon/gnomonlaw03.DbmKeys", spec := "dbmKeys", apart := false }
def DbmKeysSaid : Prop := dbmKeysRow.holds Try.pinned (OpenSpec.ofChange dbmKeysSpec)

/-- ITS FALSE NEIGHBOUR: 'it returns false'. Refute it at one input. -/
def dbmKeysWrong : ChangeSpec := { name := "dbmKeys", fn := fun _ => fun
  | [d1, d2, d3] => { results := [.lit (.bool false)], args := [d1, d2, d3] }
  | _ => none }
def DbmKeysWrongFalsely : Prop := dbmKeysRow.holds Try.pinned (OpenSpec.ofChange dbmKeysWrong)

/-- 'gnomonlaw03.DbmPoints': WHATEVER THE INPUT: true; the input reads as it did. -/
def dbmPointsSpec : ChangeSpec := { name := "dbmPoints", fn := fun _ => fun
  | [d1, d2, d3] => { results := [.lit (.bool true)], args := [d1, d2, d3] }
  | _ => none }
def dbmPointsRow : OpenClaim := { program := "ytgpmfnahjepjjaa", sum := "b9a7bd564a10cd90ab899d5155a041dc1cf0f1d7de196c4136f3c57fb3d4a3a6", func := "gnomon/gnomonlaw03.DbmPoints", spec := "dbmPoints", apart := false }
def DbmPointsSaid : Prop := dbmPointsRow.holds Try.pinned (OpenSpec.ofChange dbmPointsSpec)

/-- ITS FALSE NEIGHBOUR: 'it returns false'. Refute it at one input. -/
def dbmPointsWrong : ChangeSpec := { name := "dbmPoints", fn := fun _ => fun
  | [d1, d2, d3] => { results := [.lit (.bool false)], args := [d1, d2, d3] }
  | _ => none }
def DbmPointsWrongFalsely : Prop := dbmPointsRow.holds Try.pinned (OpenSpec.ofChange dbmPointsWrong)

/-- 'gnomonlaw03.DbmForm': WHATEVER THE INPUT: true; the input reads as it did. -/
def dbmFormSpec : ChangeSpec := { name := "dbmForm", fn := fun _ => fun
  | [d1, d2, d3] => { results := [.lit (.bool true)], args := [d1, d2, d3] }
  | _ => none }
def dbmFormRow : OpenClaim := { program := "ytgpmfnahjepjjaa", sum := "b9a7bd564a10cd90ab899d5155a041dc1cf0f1d7de196c4136f3c57fb3d4a3a6", func := "gnomon/gnomonlaw03.DbmForm", spec := "dbmForm", apart := false }
def DbmFormSaid : Prop := dbmFormRow.holds Try.pinned (OpenSpec.ofChange dbmFormSpec)

/-- ITS FALSE NEIGHBOUR: 'it returns false'. Refute it at one input. -/
def dbmFormWrong : ChangeSpec := { name := "dbmForm", fn := fun _ => fun
  | [d1, d2, d3] => { results := [.lit (.bool false)], args := [d1, d2, d3] }
  | _ => none }
def DbmFormWrongFalsely : Prop := dbmFormRow.holds Try.pinned (OpenSpec.ofChange dbmFormWrong)

/-- 'gnomonlaw03.DbmCompares': WHATEVER THE INPUT: true; the input reads as it did. -/
def dbmComparesSpec : ChangeSpec := { name := "dbmCompares", fn := fun _ => fun
  | [d1, d2, d3] => { results := [.lit (.bool true)], args := [d1, d2, d3] }
  | _ => none }
def dbmComparesRow : OpenClaim := { program := "ytgpmfnahjepjjaa", sum := "b9a7bd564a10cd90ab899d5155a041dc1cf0f1d7de196c4136f3c57fb3d4a3a6", func := "gnomon/gnomonlaw03.DbmCompares", spec := "dbmCompares", unfollowed := true, recurses := true, apart := false }
def DbmComparesSaid : Prop := dbmComparesRow.holds Try.pinned (OpenSpec.ofChange dbmComparesSpec)

/-- ITS FALSE NEIGHBOUR: 'it returns false'. Refute it at one input. -/
def dbmComparesWrong : ChangeSpec := { name := "dbmCompares", fn := fun _ => fun
  | [d1, d2, d3] => { results := [.lit (.bool false)], args := [d1, d2, d3] }
  | _ => none }
def DbmComparesWrongFalsely : Prop := dbmComparesRow.holds Try.pinned (OpenSpec.ofChange dbmComparesWrong)

/- THE SECOND FORM. 'bulk': how many values and letters a reading holds, each counted each time it is reached (what is shared counts as often as it is met; a slice's spare places count too). A statement '..UptoSaid' is the law's where the arguments, and the package variables that the reading takes, are together of bulk at most 1048576: NARROWER than '..Said'. Prove '..Said' where nothing that the law and all that it calls make is longer than what came in: it says more and counts as full. Else prove '..UptoSaid'. A law counts once. -/
mutual
def uptoBulk {H : Type} : DataW H → Nat
  | .lit (.string bytes) => bytes.length + 1
  | .lit _ => 1
  | .nil => 1
  | .ptr d => uptoBulk d + 1
  | .slice elems spare => uptoBulkAll elems + uptoBulkAll spare + 1
  | .agg parts => uptoBulkAll parts + 1
  | .iface _ d => uptoBulk d + 1
  | .map entries => uptoBulkEntries entries + 1
  | .held _ => 1
def uptoBulkAll {H : Type} : List (DataW H) → Nat
  | [] => 0
  | d :: r => uptoBulk d + uptoBulkAll r
def uptoBulkEntries {H : Type} : List (Lit × DataW H) → Nat
  | [] => 0
  | x :: r => uptoBulkEntry x + uptoBulkEntries r
def uptoBulkEntry {H : Type} : Lit × DataW H → Nat
  | (.string bytes, d) => bytes.length + uptoBulk d + 1
  | (_, d) => uptoBulk d + 1
 end
def uptoSmall : (H : Type) → List (DataW H) → Bool := fun _ ds => decide (uptoBulkAll ds ≤ 1048576)
def OpenSpec.upto (s : _root_.Go.ChangeSpec) : _root_.Go.OpenSpec := { _root_.Go.OpenSpec.ofChange s with cond := some uptoSmall }

/-- 'gnomonlaw03.DbmMakes', WHERE WHAT IT READS IS OF BULK AT MOST 1048576: true; the input reads as it did. -/
def dbmMakesUptoRow : OpenClaim := { program := "ytgpmfnahjepjjaa", sum := "b9a7bd564a10cd90ab899d5155a041dc1cf0f1d7de196c4136f3c57fb3d4a3a6", func := "gnomon/gnomonlaw03.DbmMakes", spec := "dbmMakes", apart := false, narrowed := true }
def DbmMakesUptoSaid : Prop := dbmMakesUptoRow.holds Try.pinned (OpenSpec.upto dbmMakesSpec)

/-- 'gnomonlaw03.DbmCells', WHERE WHAT IT READS IS OF BULK AT MOST 1048576: true; the input reads as it did. -/
def dbmCellsUptoRow : OpenClaim := { program := "ytgpmfnahjepjjaa", sum := "b9a7bd564a10cd90ab899d5155a041dc1cf0f1d7de196c4136f3c57fb3d4a3a6", func := "gnomon/gnomonlaw03.DbmCells", spec := "dbmCells", apart := false, narrowed := true }
def DbmCellsUptoSaid : Prop := dbmCellsUptoRow.holds Try.pinned (OpenSpec.upto dbmCellsSpec)

/-- 'gnomonlaw03.DbmOwn', WHERE WHAT IT READS IS OF BULK AT MOST 1048576: true; the input reads as it did. -/
def dbmOwnUptoRow : OpenClaim := { program := "ytgpmfnahjepjjaa", sum := "b9a7bd564a10cd90ab899d5155a041dc1cf0f1d7de196c4136f3c57fb3d4a3a6", func := "gnomon/gnomonlaw03.DbmOwn", spec := "dbmOwn", apart := false, narrowed := true }
def DbmOwnUptoSaid : Prop := dbmOwnUptoRow.holds Try.pinned (OpenSpec.upto dbmOwnSpec)

/-- 'gnomonlaw03.DbmKeys', WHERE WHAT IT READS IS OF BULK AT MOST 1048576: true; the input reads as it did. -/
def dbmKeysUptoRow : OpenClaim := { program := "ytgpmfnahjepjjaa", sum := "b9a7bd564a10cd90ab899d5155a041dc1cf0f1d7de196c4136f3c57fb3d4a3a6", func := "gnomon/gnomonlaw03.DbmKeys", spec := "dbmKeys", apart := false, narrowed := true }
def DbmKeysUptoSaid : Prop := dbmKeysUptoRow.holds Try.pinned (OpenSpec.upto dbmKeysSpec)

/-- 'gnomonlaw03.DbmPoints', WHERE WHAT IT READS IS OF BULK AT MOST 1048576: true; the input reads as it did. -/
def dbmPointsUptoRow : OpenClaim := { program := "ytgpmfnahjepjjaa", sum := "b9a7bd564a10cd90ab899d5155a041dc1cf0f1d7de196c4136f3c57fb3d4a3a6", func := "gnomon/gnomonlaw03.DbmPoints", spec := "dbmPoints", apart := false, narrowed := true }
def DbmPointsUptoSaid : Prop := dbmPointsUptoRow.holds Try.pinned (OpenSpec.upto dbmPointsSpec)

/-- 'gnomonlaw03.DbmForm', WHERE WHAT IT READS IS OF BULK AT MOST 1048576: true; the input reads as it did. -/
def dbmFormUptoRow : OpenClaim := { program := "ytgpmfnahjepjjaa", sum := "b9a7bd564a10cd90ab899d5155a041dc1cf0f1d7de196c4136f3c57fb3d4a3a6", func := "gnomon/gnomonlaw03.DbmForm", spec := "dbmForm", apart := false, narrowed := true }
def DbmFormUptoSaid : Prop := dbmFormUptoRow.holds Try.pinned (OpenSpec.upto dbmFormSpec)

/-- 'gnomonlaw03.DbmCompares', WHERE WHAT IT READS IS OF BULK AT MOST 1048576: true; the input reads as it did. -/
def dbmComparesUptoRow : OpenClaim := { program := "ytgpmfnahjepjjaa", sum := "b9a7bd564a10cd90ab899d5155a041dc1cf0f1d7de196c4136f3c57fb3d4a3a6", func := "gnomon/gnomonlaw03.DbmCompares", spec := "dbmCompares", unfollowed := true, recurses := true, apart := false, narrowed := true }
def DbmComparesUptoSaid : Prop := dbmComparesUptoRow.holds Try.pinned (OpenSpec.upto dbmComparesSpec)

end Rows
end Go.Proofs.Ytgpmfnahjepjjaa
