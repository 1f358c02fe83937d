/-
  DERIVED. GIVEN WITH THE SEED: THE CARDS: each row of YtncgapnooabdgaaDoorRows.lean that lists a variable, with what it lists TIED to the program's text (the seventh form; the later family's looks); each row that meets fmt, with fmt's text TOLD by the authors' own Lean function (tested against real Go, not proved from fmt's source: count such statements apart). THE CARD IS WHAT COUNTS. Prove the row's statement (the work); the ties are given (YtncgapnooabdgaaDoorTie.lean); close each card by the builder's one call (the guide's Derived/Test/ToyasCard.lean, 'card_holds'). Laid BY PROGRAM, IN A SANDBOX (cutbox-door.mjs). By AI agents, Wed Nov 11 2026. No macro, syntax, notation, axiom, sorry.
-/
import Derived.Test.YtncgapnooabdgaaDoorRows
import GoSem.ClaimSeven
namespace Go.Proofs.YtncgapnooabdgaaDoor
namespace Rows

/-- THE TIED CARD OF 'gnomonlaw05.ExtraWidens'. -/
def extraWidensCard : Claim7 := { stood := { row := extraWidensRow, standIns := [], harness := (true, "9b1245379d201044ea5704e0ea06d197d1f2f16adef8f25a3f59c29d0d27fc1b"), looks := false }, kinds := [], alts := [], laidByText := true, laidKinds := [.data, .data, .data], laidTests := true, laidLooks := .later }
def ExtraWidensCardSaid : Prop := Claim7.holds Tryd.pinned (.plain (OpenSpec.ofChange extraWidensSpec)) extraWidensCard

/-- THE TIED CARD OF 'gnomonlaw05.ExtraNone'. -/
def extraNoneCard : Claim7 := { stood := { row := extraNoneRow, standIns := [], harness := (true, "9b1245379d201044ea5704e0ea06d197d1f2f16adef8f25a3f59c29d0d27fc1b"), looks := false }, kinds := [], alts := [], laidByText := true, laidKinds := [.data, .data, .data], laidTests := true, laidLooks := .later }
def ExtraNoneCardSaid : Prop := Claim7.holds Tryd.pinned (.plain (OpenSpec.ofChange extraNoneSpec)) extraNoneCard

/-- THE TIED CARD OF 'gnomonlaw05.ExtraGone'. -/
def extraGoneCard : Claim7 := { stood := { row := extraGoneRow, standIns := [], harness := (true, "9b1245379d201044ea5704e0ea06d197d1f2f16adef8f25a3f59c29d0d27fc1b"), looks := false }, kinds := [], alts := [], laidByText := true, laidKinds := [.data, .data, .data], laidTests := true, laidLooks := .later }
def ExtraGoneCardSaid : Prop := Claim7.holds Tryd.pinned (.plain (OpenSpec.ofChange extraGoneSpec)) extraGoneCard

/-- THE TIED CARD OF 'gnomonlaw05.ExtraWider'. -/
def extraWiderCard : Claim7 := { stood := { row := extraWiderRow, standIns := [], harness := (true, "9b1245379d201044ea5704e0ea06d197d1f2f16adef8f25a3f59c29d0d27fc1b"), looks := false }, kinds := [], alts := [], laidByText := true, laidKinds := [.data, .data, .data], laidTests := true, laidLooks := .later }
def ExtraWiderCardSaid : Prop := Claim7.holds Tryd.pinned (.plain (OpenSpec.ofChange extraWiderSpec)) extraWiderCard

/-- THE TIED CARD OF 'gnomonlaw05.ExtraPoints'. -/
def extraPointsCard : Claim7 := { stood := { row := extraPointsRow, standIns := [], harness := (true, "9b1245379d201044ea5704e0ea06d197d1f2f16adef8f25a3f59c29d0d27fc1b"), looks := false }, kinds := [], alts := [], laidByText := true, laidKinds := [.data, .data, .data], laidTests := true, laidLooks := .later }
def ExtraPointsCardSaid : Prop := Claim7.holds Tryd.pinned (.plain (OpenSpec.ofChange extraPointsSpec)) extraPointsCard

/-- THE TIED CARD OF 'gnomonlaw05.ExtraGuards'. -/
def extraGuardsCard : Claim7 := { stood := { row := extraGuardsRow, standIns := [], harness := (true, "9b1245379d201044ea5704e0ea06d197d1f2f16adef8f25a3f59c29d0d27fc1b"), looks := false }, kinds := [], alts := [], laidByText := true, laidKinds := [.data, .data, .data], laidTests := true, laidLooks := .later }
def ExtraGuardsCardSaid : Prop := Claim7.holds Tryd.pinned (.plain (OpenSpec.ofChange extraGuardsSpec)) extraGuardsCard

/-- THE TIED CARD OF 'gnomonlaw05.ExtraSays'. -/
def extraSaysCard : Claim7 := { stood := { row := extraSaysRow, standIns := [], harness := (true, "9b1245379d201044ea5704e0ea06d197d1f2f16adef8f25a3f59c29d0d27fc1b"), looks := false }, kinds := [], alts := [], laidByText := true, laidKinds := [.data, .data, .data], laidTests := true, laidLooks := .later }
def ExtraSaysCardSaid : Prop := Claim7.holds Tryd.pinned (.plain (OpenSpec.ofChange extraSaysSpec)) extraSaysCard

/-- THE SECOND FORM's CARD OF 'gnomonlaw05.ExtraWidens'. -/
def extraWidensUptoCard : Claim7 := { stood := { row := extraWidensUptoRow, standIns := [], harness := (true, "9b1245379d201044ea5704e0ea06d197d1f2f16adef8f25a3f59c29d0d27fc1b"), looks := false }, kinds := [], alts := [], laidByText := true, laidKinds := [.data, .data, .data], laidTests := true, laidLooks := .later }
def ExtraWidensUptoCardSaid : Prop := Claim7.holds Tryd.pinned (.plain (OpenSpec.upto extraWidensSpec)) extraWidensUptoCard

/-- THE SECOND FORM's CARD OF 'gnomonlaw05.ExtraNone'. -/
def extraNoneUptoCard : Claim7 := { stood := { row := extraNoneUptoRow, standIns := [], harness := (true, "9b1245379d201044ea5704e0ea06d197d1f2f16adef8f25a3f59c29d0d27fc1b"), looks := false }, kinds := [], alts := [], laidByText := true, laidKinds := [.data, .data, .data], laidTests := true, laidLooks := .later }
def ExtraNoneUptoCardSaid : Prop := Claim7.holds Tryd.pinned (.plain (OpenSpec.upto extraNoneSpec)) extraNoneUptoCard

/-- THE SECOND FORM's CARD OF 'gnomonlaw05.ExtraGone'. -/
def extraGoneUptoCard : Claim7 := { stood := { row := extraGoneUptoRow, standIns := [], harness := (true, "9b1245379d201044ea5704e0ea06d197d1f2f16adef8f25a3f59c29d0d27fc1b"), looks := false }, kinds := [], alts := [], laidByText := true, laidKinds := [.data, .data, .data], laidTests := true, laidLooks := .later }
def ExtraGoneUptoCardSaid : Prop := Claim7.holds Tryd.pinned (.plain (OpenSpec.upto extraGoneSpec)) extraGoneUptoCard

/-- THE SECOND FORM's CARD OF 'gnomonlaw05.ExtraWider'. -/
def extraWiderUptoCard : Claim7 := { stood := { row := extraWiderUptoRow, standIns := [], harness := (true, "9b1245379d201044ea5704e0ea06d197d1f2f16adef8f25a3f59c29d0d27fc1b"), looks := false }, kinds := [], alts := [], laidByText := true, laidKinds := [.data, .data, .data], laidTests := true, laidLooks := .later }
def ExtraWiderUptoCardSaid : Prop := Claim7.holds Tryd.pinned (.plain (OpenSpec.upto extraWiderSpec)) extraWiderUptoCard

/-- THE SECOND FORM's CARD OF 'gnomonlaw05.ExtraPoints'. -/
def extraPointsUptoCard : Claim7 := { stood := { row := extraPointsUptoRow, standIns := [], harness := (true, "9b1245379d201044ea5704e0ea06d197d1f2f16adef8f25a3f59c29d0d27fc1b"), looks := false }, kinds := [], alts := [], laidByText := true, laidKinds := [.data, .data, .data], laidTests := true, laidLooks := .later }
def ExtraPointsUptoCardSaid : Prop := Claim7.holds Tryd.pinned (.plain (OpenSpec.upto extraPointsSpec)) extraPointsUptoCard

/-- THE SECOND FORM's CARD OF 'gnomonlaw05.ExtraGuards'. -/
def extraGuardsUptoCard : Claim7 := { stood := { row := extraGuardsUptoRow, standIns := [], harness := (true, "9b1245379d201044ea5704e0ea06d197d1f2f16adef8f25a3f59c29d0d27fc1b"), looks := false }, kinds := [], alts := [], laidByText := true, laidKinds := [.data, .data, .data], laidTests := true, laidLooks := .later }
def ExtraGuardsUptoCardSaid : Prop := Claim7.holds Tryd.pinned (.plain (OpenSpec.upto extraGuardsSpec)) extraGuardsUptoCard

/-- THE SECOND FORM's CARD OF 'gnomonlaw05.ExtraSays'. -/
def extraSaysUptoCard : Claim7 := { stood := { row := extraSaysUptoRow, standIns := [], harness := (true, "9b1245379d201044ea5704e0ea06d197d1f2f16adef8f25a3f59c29d0d27fc1b"), looks := false }, kinds := [], alts := [], laidByText := true, laidKinds := [.data, .data, .data], laidTests := true, laidLooks := .later }
def ExtraSaysUptoCardSaid : Prop := Claim7.holds Tryd.pinned (.plain (OpenSpec.upto extraSaysSpec)) extraSaysUptoCard
end Rows
end Go.Proofs.YtncgapnooabdgaaDoor
