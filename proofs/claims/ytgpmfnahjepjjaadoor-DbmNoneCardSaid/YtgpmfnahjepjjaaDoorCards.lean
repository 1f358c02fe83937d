/-
  DERIVED. GIVEN WITH THE SEED: THE CARDS: each row of YtgpmfnahjepjjaaDoorRows.lean that lists a variable, with what it lists TIED to the program's text (the seventh form; the later family's looks); each row that meets fmt, with fmt's text TOLD by the authors' own Lean function (tested against real Go, not proved from fmt's source: count such statements apart). THE CARD IS WHAT COUNTS. Prove the row's statement (the work); the ties are given (YtgpmfnahjepjjaaDoorTie.lean); close each card by the builder's one call (the guide's Derived/Test/ToyasCard.lean, 'card_holds'). Laid BY PROGRAM, IN A SANDBOX (cutbox-door.mjs). By AI agents, Wed Nov 11 2026. No macro, syntax, notation, axiom, sorry.
-/
import Derived.Test.YtgpmfnahjepjjaaDoorRows
import GoSem.ClaimSeven
namespace Go.Proofs.YtgpmfnahjepjjaaDoor
namespace Rows

/-- THE TIED CARD OF 'gnomonlaw03.DbmNone'. -/
def dbmNoneCard : Claim7 := { stood := { row := dbmNoneRow, standIns := [], harness := (true, "03bc4c83b4e06b1fb66a6142fd2508486b37c36a085cb5a079d2edb08a08b5be"), looks := false }, kinds := [], alts := [], laidByText := true, laidKinds := [.data, .data, .data], laidTests := true, laidLooks := .later }
def DbmNoneCardSaid : Prop := Claim7.holds Tryd.pinned (.plain (OpenSpec.ofChange dbmNoneSpec)) dbmNoneCard

/-- THE SECOND FORM's CARD OF 'gnomonlaw03.DbmNone'. -/
def dbmNoneUptoCard : Claim7 := { stood := { row := dbmNoneUptoRow, standIns := [], harness := (true, "03bc4c83b4e06b1fb66a6142fd2508486b37c36a085cb5a079d2edb08a08b5be"), looks := false }, kinds := [], alts := [], laidByText := true, laidKinds := [.data, .data, .data], laidTests := true, laidLooks := .later }
def DbmNoneUptoCardSaid : Prop := Claim7.holds Tryd.pinned (.plain (OpenSpec.upto dbmNoneSpec)) dbmNoneUptoCard
end Rows
end Go.Proofs.YtgpmfnahjepjjaaDoor
