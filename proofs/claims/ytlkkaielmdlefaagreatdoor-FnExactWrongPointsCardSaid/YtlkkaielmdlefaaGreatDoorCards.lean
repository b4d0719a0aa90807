/-
  DERIVED. GIVEN WITH THE SEED: THE CARDS: each row of YtlkkaielmdlefaaGreatDoorRows.lean that lists a variable, with what it lists TIED to the program's text (the seventh form; the later family's looks); each row that meets fmt, with fmt's text TOLD by the authors' own Lean function (tested against real Go, not proved from fmt's source: count such statements apart). THE CARD IS WHAT COUNTS. Prove the row's statement (the work); the ties are given (YtlkkaielmdlefaaGreatDoorTie.lean); close each card by the builder's one call (the guide's Derived/Test/ToyasCard.lean, 'card_holds'). Laid BY PROGRAM, IN A SANDBOX (cutbox-door.mjs). By AI agents, Wed Nov 11 2026. No macro, syntax, notation, axiom, sorry.
-/
import Derived.Test.YtlkkaielmdlefaaGreatDoorRows
import GoSem.ClaimSeven
namespace Go.Proofs.YtlkkaielmdlefaaGreatDoor
namespace Rows

/-- THE TIED CARD OF 'laws.FnExactLocallyFlat'. -/
def fnExactLocallyFlatCard : Claim7 := { stood := { row := fnExactLocallyFlatRow, standIns := [], harness := (true, "683c95ae53657e6b3a89de11bd8a4e051deae520373e039d872537a37179b2f2"), looks := false }, kinds := [], alts := [], laidByText := true, laidKinds := [.data], laidTests := true, laidLooks := .later }
def FnExactLocallyFlatCardSaid : Prop := Claim7.holds Tryz.pinned (.plain (OpenSpec.ofChange fnExactLocallyFlatSpec)) fnExactLocallyFlatCard

/-- THE TIED CARD OF 'laws.FnExactReportPoint'. -/
def fnExactReportPointCard : Claim7 := { stood := { row := fnExactReportPointRow, standIns := [], harness := (true, "683c95ae53657e6b3a89de11bd8a4e051deae520373e039d872537a37179b2f2"), looks := false }, kinds := [], alts := [], laidByText := true, laidKinds := [.data], laidTests := true, laidLooks := .later }
def FnExactReportPointCardSaid : Prop := Claim7.holds Tryz.pinned (.plain (OpenSpec.ofChange fnExactReportPointSpec)) fnExactReportPointCard

/-- THE TIED CARD OF 'laws.FnExactWrongPoints'. -/
def fnExactWrongPointsCard : Claim7 := { stood := { row := fnExactWrongPointsRow, standIns := [], harness := (true, "683c95ae53657e6b3a89de11bd8a4e051deae520373e039d872537a37179b2f2"), looks := false }, kinds := [], alts := [], laidByText := true, laidKinds := [.data], laidTests := true, laidLooks := .later }
def FnExactWrongPointsCardSaid : Prop := Claim7.holds Tryz.pinned (.plain (OpenSpec.ofChange fnExactWrongPointsSpec)) fnExactWrongPointsCard

/-- THE TIED CARD OF 'laws.FnExactReportPoints'. -/
def fnExactReportPointsCard : Claim7 := { stood := { row := fnExactReportPointsRow, standIns := [], harness := (true, "683c95ae53657e6b3a89de11bd8a4e051deae520373e039d872537a37179b2f2"), looks := false }, kinds := [], alts := [], laidByText := true, laidKinds := [.data], laidTests := true, laidLooks := .later }
def FnExactReportPointsCardSaid : Prop := Claim7.holds Tryz.pinned (.plain (OpenSpec.ofChange fnExactReportPointsSpec)) fnExactReportPointsCard

/-- THE SECOND FORM's CARD OF 'laws.FnExactLocallyFlat'. -/
def fnExactLocallyFlatUptoCard : Claim7 := { stood := { row := fnExactLocallyFlatUptoRow, standIns := [], harness := (true, "683c95ae53657e6b3a89de11bd8a4e051deae520373e039d872537a37179b2f2"), looks := false }, kinds := [], alts := [], laidByText := true, laidKinds := [.data], laidTests := true, laidLooks := .later }
def FnExactLocallyFlatUptoCardSaid : Prop := Claim7.holds Tryz.pinned (.plain (OpenSpec.upto fnExactLocallyFlatSpec)) fnExactLocallyFlatUptoCard

/-- THE SECOND FORM's CARD OF 'laws.FnExactReportPoint'. -/
def fnExactReportPointUptoCard : Claim7 := { stood := { row := fnExactReportPointUptoRow, standIns := [], harness := (true, "683c95ae53657e6b3a89de11bd8a4e051deae520373e039d872537a37179b2f2"), looks := false }, kinds := [], alts := [], laidByText := true, laidKinds := [.data], laidTests := true, laidLooks := .later }
def FnExactReportPointUptoCardSaid : Prop := Claim7.holds Tryz.pinned (.plain (OpenSpec.upto fnExactReportPointSpec)) fnExactReportPointUptoCard

/-- THE SECOND FORM's CARD OF 'laws.FnExactWrongPoints'. -/
def fnExactWrongPointsUptoCard : Claim7 := { stood := { row := fnExactWrongPointsUptoRow, standIns := [], harness := (true, "683c95ae53657e6b3a89de11bd8a4e051deae520373e039d872537a37179b2f2"), looks := false }, kinds := [], alts := [], laidByText := true, laidKinds := [.data], laidTests := true, laidLooks := .later }
def FnExactWrongPointsUptoCardSaid : Prop := Claim7.holds Tryz.pinned (.plain (OpenSpec.upto fnExactWrongPointsSpec)) fnExactWrongPointsUptoCard

/-- THE SECOND FORM's CARD OF 'laws.FnExactReportPoints'. -/
def fnExactReportPointsUptoCard : Claim7 := { stood := { row := fnExactReportPointsUptoRow, standIns := [], harness := (true, "683c95ae53657e6b3a89de11bd8a4e051deae520373e039d872537a37179b2f2"), looks := false }, kinds := [], alts := [], laidByText := true, laidKinds := [.data], laidTests := true, laidLooks := .later }
def FnExactReportPointsUptoCardSaid : Prop := Claim7.holds Tryz.pinned (.plain (OpenSpec.upto fnExactReportPointsSpec)) fnExactReportPointsUptoCard
end Rows
end Go.Proofs.YtlkkaielmdlefaaGreatDoor
