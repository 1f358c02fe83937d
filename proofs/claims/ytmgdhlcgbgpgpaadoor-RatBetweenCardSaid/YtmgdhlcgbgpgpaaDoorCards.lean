/-
  DERIVED. GIVEN WITH THE SEED: THE CARDS: each row of YtmgdhlcgbgpgpaaDoorRows.lean that lists a variable, with what it lists TIED to the program's text (the seventh form; the later family's looks); each row that meets fmt, with fmt's text TOLD by the authors' own Lean function (tested against real Go, not proved from fmt's source: count such statements apart). THE CARD IS WHAT COUNTS. Prove the row's statement (the work); the ties are given (YtmgdhlcgbgpgpaaDoorTie.lean); close each card by the builder's one call (the guide's Derived/Test/ToyasCard.lean, 'card_holds'). Laid BY PROGRAM, IN A SANDBOX (cutbox-door.mjs). By AI agents, Wed Nov 11 2026. No macro, syntax, notation, axiom, sorry.
-/
import Derived.Test.YtmgdhlcgbgpgpaaDoorRows
import GoSem.ClaimSeven
namespace Go.Proofs.YtmgdhlcgbgpgpaaDoor
namespace Rows

/-- THE TIED CARD OF 'gnomonlaw02.RatNews'. -/
def ratNewsCard : Claim7 := { stood := { row := ratNewsRow, standIns := [], harness := (true, "71c3811cf4d54589cb83c3b42baa2eb0aaac1ac3970e3b202b578486e383d08c"), looks := true }, kinds := [], alts := [], laidByText := true, laidKinds := [.data, .data, .data], laidTests := true, laidLooks := .later }
def RatNewsCardSaid : Prop := Claim7.holds Tryd.pinned (.plain (OpenSpec.ofChange ratNewsSpec)) ratNewsCard

/-- THE TIED CARD OF 'gnomonlaw02.RatBetween'. -/
def ratBetweenCard : Claim7 := { stood := { row := ratBetweenRow, standIns := [], harness := (true, "71c3811cf4d54589cb83c3b42baa2eb0aaac1ac3970e3b202b578486e383d08c"), looks := true }, kinds := [], alts := [], laidByText := true, laidKinds := [.data, .data, .data], laidTests := true, laidLooks := .later }
def RatBetweenCardSaid : Prop := Claim7.holds Tryd.pinned (.plain (OpenSpec.ofChange ratBetweenSpec)) ratBetweenCard

/-- THE TIED CARD OF 'gnomonlaw02.RatOrders'. -/
def ratOrdersCard : Claim7 := { stood := { row := ratOrdersRow, standIns := [], harness := (true, "71c3811cf4d54589cb83c3b42baa2eb0aaac1ac3970e3b202b578486e383d08c"), looks := true }, kinds := [], alts := [], laidByText := true, laidKinds := [.data, .data, .data], laidTests := true, laidLooks := .later }
def RatOrdersCardSaid : Prop := Claim7.holds Tryd.pinned (.plain (OpenSpec.ofChange ratOrdersSpec)) ratOrdersCard

/-- THE TIED CARD OF 'gnomonlaw02.RatParts'. -/
def ratPartsCard : Claim7 := { stood := { row := ratPartsRow, standIns := [], harness := (true, "71c3811cf4d54589cb83c3b42baa2eb0aaac1ac3970e3b202b578486e383d08c"), looks := true }, kinds := [], alts := [], laidByText := true, laidKinds := [.data, .data, .data], laidTests := true, laidLooks := .later }
def RatPartsCardSaid : Prop := Claim7.holds Tryd.pinned (.plain (OpenSpec.ofChange ratPartsSpec)) ratPartsCard

/-- THE TIED CARD OF 'gnomonlaw02.RatSums'. -/
def ratSumsCard : Claim7 := { stood := { row := ratSumsRow, standIns := [], harness := (true, "71c3811cf4d54589cb83c3b42baa2eb0aaac1ac3970e3b202b578486e383d08c"), looks := true }, kinds := [], alts := [], laidByText := true, laidKinds := [.data, .data, .data], laidTests := true, laidLooks := .later }
def RatSumsCardSaid : Prop := Claim7.holds Tryd.pinned (.plain (OpenSpec.ofChange ratSumsSpec)) ratSumsCard

/-- THE TIED CARD OF 'gnomonlaw02.RatTurns'. -/
def ratTurnsCard : Claim7 := { stood := { row := ratTurnsRow, standIns := [], harness := (true, "71c3811cf4d54589cb83c3b42baa2eb0aaac1ac3970e3b202b578486e383d08c"), looks := true }, kinds := [], alts := [], laidByText := true, laidKinds := [.data, .data, .data], laidTests := true, laidLooks := .later }
def RatTurnsCardSaid : Prop := Claim7.holds Tryd.pinned (.plain (OpenSpec.ofChange ratTurnsSpec)) ratTurnsCard

/-- THE TIED CARD OF 'gnomonlaw02.RatLists'. -/
def ratListsCard : Claim7 := { stood := { row := ratListsRow, standIns := [], harness := (true, "71c3811cf4d54589cb83c3b42baa2eb0aaac1ac3970e3b202b578486e383d08c"), looks := true }, kinds := [], alts := [], laidByText := true, laidKinds := [.data, .data, .data], laidTests := true, laidLooks := .later }
def RatListsCardSaid : Prop := Claim7.holds Tryd.pinned (.plain (OpenSpec.ofChange ratListsSpec)) ratListsCard

/-- THE TIED CARD OF 'gnomonlaw02.RatTexts'. -/
def ratTextsCard : Claim7 := { stood := { row := ratTextsRow, standIns := [], harness := (true, "71c3811cf4d54589cb83c3b42baa2eb0aaac1ac3970e3b202b578486e383d08c"), looks := true }, kinds := [], alts := [], laidByText := true, laidKinds := [.data, .data, .data, .sentinel, .sentinel], laidTests := true, laidLooks := .later }
def RatTextsCardSaid : Prop := Claim7.holds Tryd.pinned (.plain (OpenSpec.ofChange ratTextsSpec)) ratTextsCard

/-- THE TIED CARD OF 'gnomonlaw02.RatBack'. -/
def ratBackCard : Claim7 := { stood := { row := ratBackRow, standIns := [], harness := (true, "71c3811cf4d54589cb83c3b42baa2eb0aaac1ac3970e3b202b578486e383d08c"), looks := true }, kinds := [], alts := [], laidByText := true, laidKinds := [.data, .data, .data, .sentinel, .sentinel], laidTests := true, laidLooks := .later }
def RatBackCardSaid : Prop := Claim7.holds Tryd.pinned (.plain (OpenSpec.ofChange ratBackSpec)) ratBackCard

/-- THE SECOND FORM's CARD OF 'gnomonlaw02.RatNews'. -/
def ratNewsUptoCard : Claim7 := { stood := { row := ratNewsUptoRow, standIns := [], harness := (true, "71c3811cf4d54589cb83c3b42baa2eb0aaac1ac3970e3b202b578486e383d08c"), looks := true }, kinds := [], alts := [], laidByText := true, laidKinds := [.data, .data, .data], laidTests := true, laidLooks := .later }
def RatNewsUptoCardSaid : Prop := Claim7.holds Tryd.pinned (.plain (OpenSpec.upto ratNewsSpec)) ratNewsUptoCard

/-- THE SECOND FORM's CARD OF 'gnomonlaw02.RatBetween'. -/
def ratBetweenUptoCard : Claim7 := { stood := { row := ratBetweenUptoRow, standIns := [], harness := (true, "71c3811cf4d54589cb83c3b42baa2eb0aaac1ac3970e3b202b578486e383d08c"), looks := true }, kinds := [], alts := [], laidByText := true, laidKinds := [.data, .data, .data], laidTests := true, laidLooks := .later }
def RatBetweenUptoCardSaid : Prop := Claim7.holds Tryd.pinned (.plain (OpenSpec.upto ratBetweenSpec)) ratBetweenUptoCard

/-- THE SECOND FORM's CARD OF 'gnomonlaw02.RatOrders'. -/
def ratOrdersUptoCard : Claim7 := { stood := { row := ratOrdersUptoRow, standIns := [], harness := (true, "71c3811cf4d54589cb83c3b42baa2eb0aaac1ac3970e3b202b578486e383d08c"), looks := true }, kinds := [], alts := [], laidByText := true, laidKinds := [.data, .data, .data], laidTests := true, laidLooks := .later }
def RatOrdersUptoCardSaid : Prop := Claim7.holds Tryd.pinned (.plain (OpenSpec.upto ratOrdersSpec)) ratOrdersUptoCard

/-- THE SECOND FORM's CARD OF 'gnomonlaw02.RatParts'. -/
def ratPartsUptoCard : Claim7 := { stood := { row := ratPartsUptoRow, standIns := [], harness := (true, "71c3811cf4d54589cb83c3b42baa2eb0aaac1ac3970e3b202b578486e383d08c"), looks := true }, kinds := [], alts := [], laidByText := true, laidKinds := [.data, .data, .data], laidTests := true, laidLooks := .later }
def RatPartsUptoCardSaid : Prop := Claim7.holds Tryd.pinned (.plain (OpenSpec.upto ratPartsSpec)) ratPartsUptoCard

/-- THE SECOND FORM's CARD OF 'gnomonlaw02.RatSums'. -/
def ratSumsUptoCard : Claim7 := { stood := { row := ratSumsUptoRow, standIns := [], harness := (true, "71c3811cf4d54589cb83c3b42baa2eb0aaac1ac3970e3b202b578486e383d08c"), looks := true }, kinds := [], alts := [], laidByText := true, laidKinds := [.data, .data, .data], laidTests := true, laidLooks := .later }
def RatSumsUptoCardSaid : Prop := Claim7.holds Tryd.pinned (.plain (OpenSpec.upto ratSumsSpec)) ratSumsUptoCard

/-- THE SECOND FORM's CARD OF 'gnomonlaw02.RatTurns'. -/
def ratTurnsUptoCard : Claim7 := { stood := { row := ratTurnsUptoRow, standIns := [], harness := (true, "71c3811cf4d54589cb83c3b42baa2eb0aaac1ac3970e3b202b578486e383d08c"), looks := true }, kinds := [], alts := [], laidByText := true, laidKinds := [.data, .data, .data], laidTests := true, laidLooks := .later }
def RatTurnsUptoCardSaid : Prop := Claim7.holds Tryd.pinned (.plain (OpenSpec.upto ratTurnsSpec)) ratTurnsUptoCard

/-- THE SECOND FORM's CARD OF 'gnomonlaw02.RatLists'. -/
def ratListsUptoCard : Claim7 := { stood := { row := ratListsUptoRow, standIns := [], harness := (true, "71c3811cf4d54589cb83c3b42baa2eb0aaac1ac3970e3b202b578486e383d08c"), looks := true }, kinds := [], alts := [], laidByText := true, laidKinds := [.data, .data, .data], laidTests := true, laidLooks := .later }
def RatListsUptoCardSaid : Prop := Claim7.holds Tryd.pinned (.plain (OpenSpec.upto ratListsSpec)) ratListsUptoCard

/-- THE SECOND FORM's CARD OF 'gnomonlaw02.RatTexts'. -/
def ratTextsUptoCard : Claim7 := { stood := { row := ratTextsUptoRow, standIns := [], harness := (true, "71c3811cf4d54589cb83c3b42baa2eb0aaac1ac3970e3b202b578486e383d08c"), looks := true }, kinds := [], alts := [], laidByText := true, laidKinds := [.data, .data, .data, .sentinel, .sentinel], laidTests := true, laidLooks := .later }
def RatTextsUptoCardSaid : Prop := Claim7.holds Tryd.pinned (.plain (OpenSpec.upto ratTextsSpec)) ratTextsUptoCard

/-- THE SECOND FORM's CARD OF 'gnomonlaw02.RatBack'. -/
def ratBackUptoCard : Claim7 := { stood := { row := ratBackUptoRow, standIns := [], harness := (true, "71c3811cf4d54589cb83c3b42baa2eb0aaac1ac3970e3b202b578486e383d08c"), looks := true }, kinds := [], alts := [], laidByText := true, laidKinds := [.data, .data, .data, .sentinel, .sentinel], laidTests := true, laidLooks := .later }
def RatBackUptoCardSaid : Prop := Claim7.holds Tryd.pinned (.plain (OpenSpec.upto ratBackSpec)) ratBackUptoCard
end Rows
end Go.Proofs.YtmgdhlcgbgpgpaaDoor
