/-
  DERIVED. GIVEN WITH THE SEED: THE CARDS: each row of YtdeblempnmklfaaDoorRows.lean that lists a variable, with what it lists TIED to the program's text (the seventh form; the later family's looks); each row that meets fmt, with fmt's text TOLD by the authors' own Lean function (tested against real Go, not proved from fmt's source: count such statements apart). THE CARD IS WHAT COUNTS. Prove the row's statement (the work); the ties are given (YtdeblempnmklfaaDoorTie.lean); close each card by the builder's one call (the guide's Derived/Test/ToyasCard.lean, 'card_holds'). Laid BY PROGRAM, IN A SANDBOX (cutbox-door.mjs). By AI agents, Wed Nov 11 2026. No macro, syntax, notation, axiom, sorry.
-/
import Derived.Test.YtdeblempnmklfaaDoorRows
import GoSem.ClaimSeven
namespace Go.Proofs.YtdeblempnmklfaaDoor
namespace Rows

/-- THE TIED CARD OF 'gnomonlaw01.BoundOrder'. -/
def boundOrderCard : Claim7 := { stood := { row := boundOrderRow, standIns := [], harness := (true, "26cd94b54b917d9a2b1e8f4244521d6b75c080098395638a0367dfed39e0f7f1"), looks := true }, kinds := [], alts := [], laidByText := true, laidKinds := [.data, .data, .data], laidTests := true, laidLooks := .later }
def BoundOrderCardSaid : Prop := Claim7.holds Tryd.pinned (.plain (OpenSpec.ofChange boundOrderSpec)) boundOrderCard

/-- THE TIED CARD OF 'gnomonlaw01.BoundMakes'. -/
def boundMakesCard : Claim7 := { stood := { row := boundMakesRow, standIns := [], harness := (true, "26cd94b54b917d9a2b1e8f4244521d6b75c080098395638a0367dfed39e0f7f1"), looks := true }, kinds := [], alts := [], laidByText := true, laidKinds := [.data, .data, .data], laidTests := true, laidLooks := .later }
def BoundMakesCardSaid : Prop := Claim7.holds Tryd.pinned (.plain (OpenSpec.ofChange boundMakesSpec)) boundMakesCard

/-- THE TIED CARD OF 'gnomonlaw01.BoundSums'. -/
def boundSumsCard : Claim7 := { stood := { row := boundSumsRow, standIns := [], harness := (true, "26cd94b54b917d9a2b1e8f4244521d6b75c080098395638a0367dfed39e0f7f1"), looks := true }, kinds := [], alts := [], laidByText := true, laidKinds := [.data, .data, .data], laidTests := true, laidLooks := .later }
def BoundSumsCardSaid : Prop := Claim7.holds Tryd.pinned (.plain (OpenSpec.ofChange boundSumsSpec)) boundSumsCard

/-- THE TIED CARD OF 'gnomonlaw01.BoundPlus'. -/
def boundPlusCard : Claim7 := { stood := { row := boundPlusRow, standIns := [], harness := (true, "26cd94b54b917d9a2b1e8f4244521d6b75c080098395638a0367dfed39e0f7f1"), looks := true }, kinds := [], alts := [], laidByText := true, laidKinds := [.data, .data, .data], laidTests := true, laidLooks := .later }
def BoundPlusCardSaid : Prop := Claim7.holds Tryd.pinned (.plain (OpenSpec.ofChange boundPlusSpec)) boundPlusCard

/-- THE TIED CARD OF 'gnomonlaw01.BoundStricter'. -/
def boundStricterCard : Claim7 := { stood := { row := boundStricterRow, standIns := [], harness := (true, "26cd94b54b917d9a2b1e8f4244521d6b75c080098395638a0367dfed39e0f7f1"), looks := true }, kinds := [], alts := [], laidByText := true, laidKinds := [.data, .data, .data], laidTests := true, laidLooks := .later }
def BoundStricterCardSaid : Prop := Claim7.holds Tryd.pinned (.plain (OpenSpec.ofChange boundStricterSpec)) boundStricterCard

/-- THE TIED CARD OF 'gnomonlaw01.BoundTexts'. -/
def boundTextsCard : Claim7 := { stood := { row := boundTextsRow, standIns := [], harness := (true, "26cd94b54b917d9a2b1e8f4244521d6b75c080098395638a0367dfed39e0f7f1"), looks := true }, kinds := [], alts := [], laidByText := true, laidKinds := [.data, .data, .data, .sentinel, .sentinel], laidTests := true, laidLooks := .later }
def BoundTextsCardSaid : Prop := Claim7.holds Tryd.pinned (.plain (OpenSpec.ofChange boundTextsSpec)) boundTextsCard

/-- THE SECOND FORM's CARD OF 'gnomonlaw01.BoundOrder'. -/
def boundOrderUptoCard : Claim7 := { stood := { row := boundOrderUptoRow, standIns := [], harness := (true, "26cd94b54b917d9a2b1e8f4244521d6b75c080098395638a0367dfed39e0f7f1"), looks := true }, kinds := [], alts := [], laidByText := true, laidKinds := [.data, .data, .data], laidTests := true, laidLooks := .later }
def BoundOrderUptoCardSaid : Prop := Claim7.holds Tryd.pinned (.plain (OpenSpec.upto boundOrderSpec)) boundOrderUptoCard

/-- THE SECOND FORM's CARD OF 'gnomonlaw01.BoundMakes'. -/
def boundMakesUptoCard : Claim7 := { stood := { row := boundMakesUptoRow, standIns := [], harness := (true, "26cd94b54b917d9a2b1e8f4244521d6b75c080098395638a0367dfed39e0f7f1"), looks := true }, kinds := [], alts := [], laidByText := true, laidKinds := [.data, .data, .data], laidTests := true, laidLooks := .later }
def BoundMakesUptoCardSaid : Prop := Claim7.holds Tryd.pinned (.plain (OpenSpec.upto boundMakesSpec)) boundMakesUptoCard

/-- THE SECOND FORM's CARD OF 'gnomonlaw01.BoundSums'. -/
def boundSumsUptoCard : Claim7 := { stood := { row := boundSumsUptoRow, standIns := [], harness := (true, "26cd94b54b917d9a2b1e8f4244521d6b75c080098395638a0367dfed39e0f7f1"), looks := true }, kinds := [], alts := [], laidByText := true, laidKinds := [.data, .data, .data], laidTests := true, laidLooks := .later }
def BoundSumsUptoCardSaid : Prop := Claim7.holds Tryd.pinned (.plain (OpenSpec.upto boundSumsSpec)) boundSumsUptoCard

/-- THE SECOND FORM's CARD OF 'gnomonlaw01.BoundPlus'. -/
def boundPlusUptoCard : Claim7 := { stood := { row := boundPlusUptoRow, standIns := [], harness := (true, "26cd94b54b917d9a2b1e8f4244521d6b75c080098395638a0367dfed39e0f7f1"), looks := true }, kinds := [], alts := [], laidByText := true, laidKinds := [.data, .data, .data], laidTests := true, laidLooks := .later }
def BoundPlusUptoCardSaid : Prop := Claim7.holds Tryd.pinned (.plain (OpenSpec.upto boundPlusSpec)) boundPlusUptoCard

/-- THE SECOND FORM's CARD OF 'gnomonlaw01.BoundStricter'. -/
def boundStricterUptoCard : Claim7 := { stood := { row := boundStricterUptoRow, standIns := [], harness := (true, "26cd94b54b917d9a2b1e8f4244521d6b75c080098395638a0367dfed39e0f7f1"), looks := true }, kinds := [], alts := [], laidByText := true, laidKinds := [.data, .data, .data], laidTests := true, laidLooks := .later }
def BoundStricterUptoCardSaid : Prop := Claim7.holds Tryd.pinned (.plain (OpenSpec.upto boundStricterSpec)) boundStricterUptoCard

/-- THE SECOND FORM's CARD OF 'gnomonlaw01.BoundTexts'. -/
def boundTextsUptoCard : Claim7 := { stood := { row := boundTextsUptoRow, standIns := [], harness := (true, "26cd94b54b917d9a2b1e8f4244521d6b75c080098395638a0367dfed39e0f7f1"), looks := true }, kinds := [], alts := [], laidByText := true, laidKinds := [.data, .data, .data, .sentinel, .sentinel], laidTests := true, laidLooks := .later }
def BoundTextsUptoCardSaid : Prop := Claim7.holds Tryd.pinned (.plain (OpenSpec.upto boundTextsSpec)) boundTextsUptoCard
end Rows
end Go.Proofs.YtdeblempnmklfaaDoor
