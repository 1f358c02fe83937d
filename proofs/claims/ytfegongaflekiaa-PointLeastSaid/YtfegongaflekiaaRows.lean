/-
  No cell of these rows narrows 'for every input' (looked for: loops, veiled, ifaces, maps, wideKeys, modest, calm, conditions, laid).
  DERIVED. THE GIVEN ROWS OF THIS SEAT. 5 by the template 'for every input the law returns true; each argument reads behind the call as it read before'; 0 by the template 'total and deterministic' (their statements: YtfegongaflekiaaTotals.lean).
  GIVEN WITH THE SEED: the statements are not yours to turn. If you find one false, say at which input.
  Laid BY PROGRAM, IN A SANDBOX (cutbox-rows.mjs): the forced cells as the released guide's own fill.sh prints them over the translation bd522a143b3c99a4… (all of the seat's roots in one cut). By AI agents, Wed Nov 11 2026. No macro, syntax, notation, axiom, sorry.
-/
import Derived.Test.YtfegongaflekiaaChecked
import GoSem.Claim
import GoSem.ClaimJoined
import GoSem.ClaimMapViews
import Derived.JoinedTies
import Derived.KernelRfl
namespace Go.Proofs.Ytfegongaflekiaa
/- THE CELL 'sum', in the pinned program and in every row, IS THE sha256 OF THE DUMP (.gsa) THAT YtfegongaflekiaaProg.lean LOADS. Nothing in Lean hashes anything: it is a label: what it is worth is what the hold of that sum in a sandbox is worth. -/
noncomputable def Try.pinned : Pinned := { name := "ytfegongaflekiaa", sum := "bd522a143b3c99a4076bef3b39ecdeb84a87042602d3de1753794abf5f30bdba", checked := Try.checked }
namespace Rows
def none {H : Type} : Left H := { results := [], args := [] }

/-- 'gnomonlaw06.PointLeast': WHATEVER THE INPUT: true; the input reads as it did. -/
def pointLeastSpec : ChangeSpec := { name := "pointLeast", fn := fun _ => fun
  | [d1, d2] => { results := [.lit (.bool true)], args := [d1, d2] }
  | _ => none }
def pointLeastRow : OpenClaim := { program := "ytfegongaflekiaa", sum := "bd522a143b3c99a4076bef3b39ecdeb84a87042602d3de1753794abf5f30bdba", func := "gnomon/gnomonlaw06.PointLeast", spec := "pointLeast", inPlace := ["math/bits.Sub64", "math/bits.Add64"], unfollowed := true, recurses := true, apart := false }
def PointLeastSaid : Prop := pointLeastRow.holds Try.pinned (OpenSpec.ofChange pointLeastSpec)

/-- ITS FALSE NEIGHBOUR: 'it returns false'. Refute it at one input. -/
def pointLeastWrong : ChangeSpec := { name := "pointLeast", fn := fun _ => fun
  | [d1, d2] => { results := [.lit (.bool false)], args := [d1, d2] }
  | _ => none }
def PointLeastWrongFalsely : Prop := pointLeastRow.holds Try.pinned (OpenSpec.ofChange pointLeastWrong)

/-- 'gnomonlaw06.PointCompares': WHATEVER THE INPUT: true; the input reads as it did. -/
def pointComparesSpec : ChangeSpec := { name := "pointCompares", fn := fun _ => fun
  | [d1, d2] => { results := [.lit (.bool true)], args := [d1, d2] }
  | _ => none }
def pointComparesRow : OpenClaim := { program := "ytfegongaflekiaa", sum := "bd522a143b3c99a4076bef3b39ecdeb84a87042602d3de1753794abf5f30bdba", func := "gnomon/gnomonlaw06.PointCompares", spec := "pointCompares", inPlace := ["math/bits.Sub64", "math/bits.Add64"], unfollowed := true, recurses := true, apart := false }
def PointComparesSaid : Prop := pointComparesRow.holds Try.pinned (OpenSpec.ofChange pointComparesSpec)

/-- ITS FALSE NEIGHBOUR: 'it returns false'. Refute it at one input. -/
def pointComparesWrong : ChangeSpec := { name := "pointCompares", fn := fun _ => fun
  | [d1, d2] => { results := [.lit (.bool false)], args := [d1, d2] }
  | _ => none }
def PointComparesWrongFalsely : Prop := pointComparesRow.holds Try.pinned (OpenSpec.ofChange pointComparesWrong)

/-- 'gnomonlaw06.PointLeastIn': WHATEVER THE INPUT: true; the input reads as it did. -/
def pointLeastInSpec : ChangeSpec := { name := "pointLeastIn", fn := fun _ => fun
  | [d1, d2, d3] => { results := [.lit (.bool true)], args := [d1, d2, d3] }
  | _ => none }
def pointLeastInRow : OpenClaim := { program := "ytfegongaflekiaa", sum := "bd522a143b3c99a4076bef3b39ecdeb84a87042602d3de1753794abf5f30bdba", func := "gnomon/gnomonlaw06.PointLeastIn", spec := "pointLeastIn", inPlace := ["math/bits.Sub64", "math/bits.Add64"], unfollowed := true, recurses := true, apart := false }
def PointLeastInSaid : Prop := pointLeastInRow.holds Try.pinned (OpenSpec.ofChange pointLeastInSpec)

/-- ITS FALSE NEIGHBOUR: 'it returns false'. Refute it at one input. -/
def pointLeastInWrong : ChangeSpec := { name := "pointLeastIn", fn := fun _ => fun
  | [d1, d2, d3] => { results := [.lit (.bool false)], args := [d1, d2, d3] }
  | _ => none }
def PointLeastInWrongFalsely : Prop := pointLeastInRow.holds Try.pinned (OpenSpec.ofChange pointLeastInWrong)

/-- 'gnomonlaw06.PointSpans': WHATEVER THE INPUT: true; the input reads as it did. -/
def pointSpansSpec : ChangeSpec := { name := "pointSpans", fn := fun _ => fun
  | [d1, d2, d3] => { results := [.lit (.bool true)], args := [d1, d2, d3] }
  | _ => none }
def pointSpansRow : OpenClaim := { program := "ytfegongaflekiaa", sum := "bd522a143b3c99a4076bef3b39ecdeb84a87042602d3de1753794abf5f30bdba", func := "gnomon/gnomonlaw06.PointSpans", spec := "pointSpans", inPlace := ["math/bits.Sub64", "math/bits.Add64"], unfollowed := true, recurses := true, apart := false }
def PointSpansSaid : Prop := pointSpansRow.holds Try.pinned (OpenSpec.ofChange pointSpansSpec)

/-- ITS FALSE NEIGHBOUR: 'it returns false'. Refute it at one input. -/
def pointSpansWrong : ChangeSpec := { name := "pointSpans", fn := fun _ => fun
  | [d1, d2, d3] => { results := [.lit (.bool false)], args := [d1, d2, d3] }
  | _ => none }
def PointSpansWrongFalsely : Prop := pointSpansRow.holds Try.pinned (OpenSpec.ofChange pointSpansWrong)

/-- 'gnomonlaw06.PointUp': WHATEVER THE INPUT: true; the input reads as it did. -/
def pointUpSpec : ChangeSpec := { name := "pointUp", fn := fun _ => fun
  | [d1, d2, d3] => { results := [.lit (.bool true)], args := [d1, d2, d3] }
  | _ => none }
def pointUpRow : OpenClaim := { program := "ytfegongaflekiaa", sum := "bd522a143b3c99a4076bef3b39ecdeb84a87042602d3de1753794abf5f30bdba", func := "gnomon/gnomonlaw06.PointUp", spec := "pointUp", inPlace := ["math/bits.Sub64", "math/bits.Add64"], unfollowed := true, recurses := true, apart := false }
def PointUpSaid : Prop := pointUpRow.holds Try.pinned (OpenSpec.ofChange pointUpSpec)

/-- ITS FALSE NEIGHBOUR: 'it returns false'. Refute it at one input. -/
def pointUpWrong : ChangeSpec := { name := "pointUp", fn := fun _ => fun
  | [d1, d2, d3] => { results := [.lit (.bool false)], args := [d1, d2, d3] }
  | _ => none }
def PointUpWrongFalsely : Prop := pointUpRow.holds Try.pinned (OpenSpec.ofChange pointUpWrong)

/- THE SECOND FORM. 'bulk': how many values and letters a reading holds, each counted each time it is reached (what is shared counts as often as it is met; a slice's spare places count too). A statement '..UptoSaid' is the law's where the arguments, and the package variables that the reading takes, are together of bulk at most 1048576: NARROWER than '..Said'. Prove '..Said' where nothing that the law and all that it calls make is longer than what came in: it says more and counts as full. Else prove '..UptoSaid'. A law counts once. -/
mutual
def uptoBulk {H : Type} : DataW H → Nat
  | .lit (.string bytes) => bytes.length + 1
  | .lit _ => 1
  | .nil => 1
  | .ptr d => uptoBulk d + 1
  | .slice elems spare => uptoBulkAll elems + uptoBulkAll spare + 1
  | .agg parts => uptoBulkAll parts + 1
  | .iface _ d => uptoBulk d + 1
  | .map entries => uptoBulkEntries entries + 1
  | .held _ => 1
def uptoBulkAll {H : Type} : List (DataW H) → Nat
  | [] => 0
  | d :: r => uptoBulk d + uptoBulkAll r
def uptoBulkEntries {H : Type} : List (Lit × DataW H) → Nat
  | [] => 0
  | x :: r => uptoBulkEntry x + uptoBulkEntries r
def uptoBulkEntry {H : Type} : Lit × DataW H → Nat
  | (.string bytes, d) => bytes.length + uptoBulk d + 1
  | (_, d) => uptoBulk d + 1
 end
def uptoSmall : (H : Type) → List (DataW H) → Bool := fun _ ds => decide (uptoBulkAll ds ≤ 1048576)
def OpenSpec.upto (s : _root_.Go.ChangeSpec) : _root_.Go.OpenSpec := { _root_.Go.OpenSpec.ofChange s with cond := some uptoSmall }

/-- 'gnomonlaw06.PointLeast', WHERE WHAT IT READS IS OF BULK AT MOST 1048576: true; the input reads as it did. -/
def pointLeastUptoRow : OpenClaim := { program := "ytfegongaflekiaa", sum := "bd522a143b3c99a4076bef3b39ecdeb84a87042602d3de1753794abf5f30bdba", func := "gnomon/gnomonlaw06.PointLeast", spec := "pointLeast", inPlace := ["math/bits.Sub64", "math/bits.Add64"], unfollowed := true, recurses := true, apart := false, narrowed := true }
def PointLeastUptoSaid : Prop := pointLeastUptoRow.holds Try.pinned (OpenSpec.upto pointLeastSpec)

/-- 'gnomonlaw06.PointCompares', WHERE WHAT IT READS IS OF BULK AT MOST 1048576: true; the input reads as it did. -/
def pointComparesUptoRow : OpenClaim := { program := "ytfegongaflekiaa", sum := "bd522a143b3c99a4076bef3b39ecdeb84a87042602d3de1753794abf5f30bdba", func := "gnomon/gnomonlaw06.PointCompares", spec := "pointCompares", inPlace := ["math/bits.Sub64", "math/bits.Add64"], unfollowed := true, recurses := true, apart := false, narrowed := true }
def PointComparesUptoSaid : Prop := pointComparesUptoRow.holds Try.pinned (OpenSpec.upto pointComparesSpec)

/-- 'gnomonlaw06.PointLeastIn', WHERE WHAT IT READS IS OF BULK AT MOST 1048576: true; the input reads as it did. -/
def pointLeastInUptoRow : OpenClaim := { program := "ytfegongaflekiaa", sum := "bd522a143b3c99a4076bef3b39ecdeb84a87042602d3de1753794abf5f30bdba", func := "gnomon/gnomonlaw06.PointLeastIn", spec := "pointLeastIn", inPlace := ["math/bits.Sub64", "math/bits.Add64"], unfollowed := true, recurses := true, apart := false, narrowed := true }
def PointLeastInUptoSaid : Prop := pointLeastInUptoRow.holds Try.pinned (OpenSpec.upto pointLeastInSpec)

/-- 'gnomonlaw06.PointSpans', WHERE WHAT IT READS IS OF BULK AT MOST 1048576: true; the input reads as it did. -/
def pointSpansUptoRow : OpenClaim := { program := "ytfegongaflekiaa", sum := "bd522a143b3c99a4076bef3b39ecdeb84a87042602d3de1753794abf5f30bdba", func := "gnomon/gnomonlaw06.PointSpans", spec := "pointSpans", inPlace := ["math/bits.Sub64", "math/bits.Add64"], unfollowed := true, recurses := true, apart := false, narrowed := true }
def PointSpansUptoSaid : Prop := pointSpansUptoRow.holds Try.pinned (OpenSpec.upto pointSpansSpec)

/-- 'gnomonlaw06.PointUp', WHERE WHAT IT READS IS OF BULK AT MOST 1048576: true; the input reads as it did. -/
def pointUpUptoRow : OpenClaim := { program := "ytfegongaflekiaa", sum := "bd522a143b3c99a4076bef3b39ecdeb84a87042602d3de1753794abf5f30bdba", func := "gnomon/gnomonlaw06.PointUp", spec := "pointUp", inPlace := ["math/bits.Sub64", "math/bits.Add64"], unfollowed := true, recurses := true, apart := false, narrowed := true }
def PointUpUptoSaid : Prop := pointUpUptoRow.holds Try.pinned (OpenSpec.upto pointUpSpec)

end Rows
end Go.Proofs.Ytfegongaflekiaa
