/-
  DERIVED. GIVEN WITH THE SEED: THE CARDS: each row of YtidcnlecgcobmaaDoorRows.lean that lists a variable, with what it lists TIED to the program's text (the seventh form; the later family's looks); each row that meets fmt, with fmt's text TOLD by the authors' own Lean function (tested against real Go, not proved from fmt's source: count such statements apart). THE CARD IS WHAT COUNTS. Prove the row's statement (the work); the ties are given (YtidcnlecgcobmaaDoorTie.lean); close each card by the builder's one call (the guide's Derived/Test/ToyasCard.lean, 'card_holds'). Laid BY PROGRAM, IN A SANDBOX (cutbox-door.mjs). By AI agents, Wed Nov 11 2026. No macro, syntax, notation, axiom, sorry.
-/
import Derived.Test.YtidcnlecgcobmaaDoorRows
import GoSem.ClaimSeven
namespace Go.Proofs.YtidcnlecgcobmaaDoor
namespace Rows

/-- THE TIED CARD OF 'gnomonlaw04.OpsLimits'. -/
def opsLimitsCard : Claim7 := { stood := { row := opsLimitsRow, standIns := [], harness := (true, "aba577e031ac201843c7ed54c6efdc6625ecaabdb55eacf734db96950fafa5e9"), looks := false }, kinds := [], alts := [], laidByText := true, laidKinds := [.data, .data, .data], laidTests := true, laidLooks := .later }
def OpsLimitsCardSaid : Prop := Claim7.holds Tryd.pinned (.plain (OpenSpec.ofChange opsLimitsSpec)) opsLimitsCard

/-- THE TIED CARD OF 'gnomonlaw04.OpsTime'. -/
def opsTimeCard : Claim7 := { stood := { row := opsTimeRow, standIns := [], harness := (true, "aba577e031ac201843c7ed54c6efdc6625ecaabdb55eacf734db96950fafa5e9"), looks := false }, kinds := [], alts := [], laidByText := true, laidKinds := [.data, .data, .data], laidTests := true, laidLooks := .later }
def OpsTimeCardSaid : Prop := Claim7.holds Tryd.pinned (.plain (OpenSpec.ofChange opsTimeSpec)) opsTimeCard

/-- THE TIED CARD OF 'gnomonlaw04.OpsGuards'. -/
def opsGuardsCard : Claim7 := { stood := { row := opsGuardsRow, standIns := [], harness := (true, "aba577e031ac201843c7ed54c6efdc6625ecaabdb55eacf734db96950fafa5e9"), looks := false }, kinds := [], alts := [], laidByText := true, laidKinds := [.data, .data, .data], laidTests := true, laidLooks := .later }
def OpsGuardsCardSaid : Prop := Claim7.holds Tryd.pinned (.plain (OpenSpec.ofChange opsGuardsSpec)) opsGuardsCard

/-- THE TIED CARD OF 'gnomonlaw04.OpsHull'. -/
def opsHullCard : Claim7 := { stood := { row := opsHullRow, standIns := [], harness := (true, "aba577e031ac201843c7ed54c6efdc6625ecaabdb55eacf734db96950fafa5e9"), looks := false }, kinds := [], alts := [], laidByText := true, laidKinds := [.data, .data, .data], laidTests := true, laidLooks := .later }
def OpsHullCardSaid : Prop := Claim7.holds Tryd.pinned (.plain (OpenSpec.ofChange opsHullSpec)) opsHullCard

/-- THE TIED CARD OF 'gnomonlaw04.OpsJoins'. -/
def opsJoinsCard : Claim7 := { stood := { row := opsJoinsRow, standIns := [], harness := (true, "aba577e031ac201843c7ed54c6efdc6625ecaabdb55eacf734db96950fafa5e9"), looks := false }, kinds := [], alts := [], laidByText := true, laidKinds := [.data, .data, .data], laidTests := true, laidLooks := .later }
def OpsJoinsCardSaid : Prop := Claim7.holds Tryd.pinned (.plain (OpenSpec.ofChange opsJoinsSpec)) opsJoinsCard

/-- THE TIED CARD OF 'gnomonlaw04.OpsCells'. -/
def opsCellsCard : Claim7 := { stood := { row := opsCellsRow, standIns := [], harness := (true, "aba577e031ac201843c7ed54c6efdc6625ecaabdb55eacf734db96950fafa5e9"), looks := false }, kinds := [], alts := [], laidByText := true, laidKinds := [.data, .data, .data], laidTests := true, laidLooks := .later }
def OpsCellsCardSaid : Prop := Claim7.holds Tryd.pinned (.plain (OpenSpec.ofChange opsCellsSpec)) opsCellsCard

/-- THE TIED CARD OF 'gnomonlaw04.OpsTwice'. -/
def opsTwiceCard : Claim7 := { stood := { row := opsTwiceRow, standIns := [], harness := (true, "aba577e031ac201843c7ed54c6efdc6625ecaabdb55eacf734db96950fafa5e9"), looks := false }, kinds := [], alts := [], laidByText := true, laidKinds := [.data, .data, .data], laidTests := true, laidLooks := .later }
def OpsTwiceCardSaid : Prop := Claim7.holds Tryd.pinned (.plain (OpenSpec.ofChange opsTwiceSpec)) opsTwiceCard

/-- THE TIED CARD OF 'gnomonlaw04.OpsSets'. -/
def opsSetsCard : Claim7 := { stood := { row := opsSetsRow, standIns := [], harness := (true, "aba577e031ac201843c7ed54c6efdc6625ecaabdb55eacf734db96950fafa5e9"), looks := false }, kinds := [], alts := [], laidByText := true, laidKinds := [.data, .data, .data], laidTests := true, laidLooks := .later }
def OpsSetsCardSaid : Prop := Claim7.holds Tryd.pinned (.plain (OpenSpec.ofChange opsSetsSpec)) opsSetsCard

/-- THE TIED CARD OF 'gnomonlaw04.OpsPoints'. -/
def opsPointsCard : Claim7 := { stood := { row := opsPointsRow, standIns := [], harness := (true, "aba577e031ac201843c7ed54c6efdc6625ecaabdb55eacf734db96950fafa5e9"), looks := false }, kinds := [], alts := [], laidByText := true, laidKinds := [.data, .data, .data], laidTests := true, laidLooks := .later }
def OpsPointsCardSaid : Prop := Claim7.holds Tryd.pinned (.plain (OpenSpec.ofChange opsPointsSpec)) opsPointsCard

/-- THE TIED CARD OF 'gnomonlaw04.OpsNone'. -/
def opsNoneCard : Claim7 := { stood := { row := opsNoneRow, standIns := [], harness := (true, "aba577e031ac201843c7ed54c6efdc6625ecaabdb55eacf734db96950fafa5e9"), looks := false }, kinds := [], alts := [], laidByText := true, laidKinds := [.data, .data, .data], laidTests := true, laidLooks := .later }
def OpsNoneCardSaid : Prop := Claim7.holds Tryd.pinned (.plain (OpenSpec.ofChange opsNoneSpec)) opsNoneCard

/-- THE SECOND FORM's CARD OF 'gnomonlaw04.OpsLimits'. -/
def opsLimitsUptoCard : Claim7 := { stood := { row := opsLimitsUptoRow, standIns := [], harness := (true, "aba577e031ac201843c7ed54c6efdc6625ecaabdb55eacf734db96950fafa5e9"), looks := false }, kinds := [], alts := [], laidByText := true, laidKinds := [.data, .data, .data], laidTests := true, laidLooks := .later }
def OpsLimitsUptoCardSaid : Prop := Claim7.holds Tryd.pinned (.plain (OpenSpec.upto opsLimitsSpec)) opsLimitsUptoCard

/-- THE SECOND FORM's CARD OF 'gnomonlaw04.OpsTime'. -/
def opsTimeUptoCard : Claim7 := { stood := { row := opsTimeUptoRow, standIns := [], harness := (true, "aba577e031ac201843c7ed54c6efdc6625ecaabdb55eacf734db96950fafa5e9"), looks := false }, kinds := [], alts := [], laidByText := true, laidKinds := [.data, .data, .data], laidTests := true, laidLooks := .later }
def OpsTimeUptoCardSaid : Prop := Claim7.holds Tryd.pinned (.plain (OpenSpec.upto opsTimeSpec)) opsTimeUptoCard

/-- THE SECOND FORM's CARD OF 'gnomonlaw04.OpsGuards'. -/
def opsGuardsUptoCard : Claim7 := { stood := { row := opsGuardsUptoRow, standIns := [], harness := (true, "aba577e031ac201843c7ed54c6efdc6625ecaabdb55eacf734db96950fafa5e9"), looks := false }, kinds := [], alts := [], laidByText := true, laidKinds := [.data, .data, .data], laidTests := true, laidLooks := .later }
def OpsGuardsUptoCardSaid : Prop := Claim7.holds Tryd.pinned (.plain (OpenSpec.upto opsGuardsSpec)) opsGuardsUptoCard

/-- THE SECOND FORM's CARD OF 'gnomonlaw04.OpsHull'. -/
def opsHullUptoCard : Claim7 := { stood := { row := opsHullUptoRow, standIns := [], harness := (true, "aba577e031ac201843c7ed54c6efdc6625ecaabdb55eacf734db96950fafa5e9"), looks := false }, kinds := [], alts := [], laidByText := true, laidKinds := [.data, .data, .data], laidTests := true, laidLooks := .later }
def OpsHullUptoCardSaid : Prop := Claim7.holds Tryd.pinned (.plain (OpenSpec.upto opsHullSpec)) opsHullUptoCard

/-- THE SECOND FORM's CARD OF 'gnomonlaw04.OpsJoins'. -/
def opsJoinsUptoCard : Claim7 := { stood := { row := opsJoinsUptoRow, standIns := [], harness := (true, "aba577e031ac201843c7ed54c6efdc6625ecaabdb55eacf734db96950fafa5e9"), looks := false }, kinds := [], alts := [], laidByText := true, laidKinds := [.data, .data, .data], laidTests := true, laidLooks := .later }
def OpsJoinsUptoCardSaid : Prop := Claim7.holds Tryd.pinned (.plain (OpenSpec.upto opsJoinsSpec)) opsJoinsUptoCard

/-- THE SECOND FORM's CARD OF 'gnomonlaw04.OpsCells'. -/
def opsCellsUptoCard : Claim7 := { stood := { row := opsCellsUptoRow, standIns := [], harness := (true, "aba577e031ac201843c7ed54c6efdc6625ecaabdb55eacf734db96950fafa5e9"), looks := false }, kinds := [], alts := [], laidByText := true, laidKinds := [.data, .data, .data], laidTests := true, laidLooks := .later }
def OpsCellsUptoCardSaid : Prop := Claim7.holds Tryd.pinned (.plain (OpenSpec.upto opsCellsSpec)) opsCellsUptoCard

/-- THE SECOND FORM's CARD OF 'gnomonlaw04.OpsTwice'. -/
def opsTwiceUptoCard : Claim7 := { stood := { row := opsTwiceUptoRow, standIns := [], harness := (true, "aba577e031ac201843c7ed54c6efdc6625ecaabdb55eacf734db96950fafa5e9"), looks := false }, kinds := [], alts := [], laidByText := true, laidKinds := [.data, .data, .data], laidTests := true, laidLooks := .later }
def OpsTwiceUptoCardSaid : Prop := Claim7.holds Tryd.pinned (.plain (OpenSpec.upto opsTwiceSpec)) opsTwiceUptoCard

/-- THE SECOND FORM's CARD OF 'gnomonlaw04.OpsSets'. -/
def opsSetsUptoCard : Claim7 := { stood := { row := opsSetsUptoRow, standIns := [], harness := (true, "aba577e031ac201843c7ed54c6efdc6625ecaabdb55eacf734db96950fafa5e9"), looks := false }, kinds := [], alts := [], laidByText := true, laidKinds := [.data, .data, .data], laidTests := true, laidLooks := .later }
def OpsSetsUptoCardSaid : Prop := Claim7.holds Tryd.pinned (.plain (OpenSpec.upto opsSetsSpec)) opsSetsUptoCard

/-- THE SECOND FORM's CARD OF 'gnomonlaw04.OpsPoints'. -/
def opsPointsUptoCard : Claim7 := { stood := { row := opsPointsUptoRow, standIns := [], harness := (true, "aba577e031ac201843c7ed54c6efdc6625ecaabdb55eacf734db96950fafa5e9"), looks := false }, kinds := [], alts := [], laidByText := true, laidKinds := [.data, .data, .data], laidTests := true, laidLooks := .later }
def OpsPointsUptoCardSaid : Prop := Claim7.holds Tryd.pinned (.plain (OpenSpec.upto opsPointsSpec)) opsPointsUptoCard

/-- THE SECOND FORM's CARD OF 'gnomonlaw04.OpsNone'. -/
def opsNoneUptoCard : Claim7 := { stood := { row := opsNoneUptoRow, standIns := [], harness := (true, "aba577e031ac201843c7ed54c6efdc6625ecaabdb55eacf734db96950fafa5e9"), looks := false }, kinds := [], alts := [], laidByText := true, laidKinds := [.data, .data, .data], laidTests := true, laidLooks := .later }
def OpsNoneUptoCardSaid : Prop := Claim7.holds Tryd.pinned (.plain (OpenSpec.upto opsNoneSpec)) opsNoneUptoCard
end Rows
end Go.Proofs.YtidcnlecgcobmaaDoor
