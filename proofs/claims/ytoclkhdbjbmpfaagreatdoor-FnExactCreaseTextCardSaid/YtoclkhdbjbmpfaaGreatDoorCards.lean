/-
  DERIVED. GIVEN WITH THE SEED: THE CARDS: each row of YtoclkhdbjbmpfaaGreatDoorRows.lean that lists a variable, with what it lists TIED to the program's text (the seventh form; the later family's looks); each row that meets fmt, with fmt's text TOLD by the authors' own Lean function (tested against real Go, not proved from fmt's source: count such statements apart). THE CARD IS WHAT COUNTS. Prove the row's statement (the work); the ties are given (YtoclkhdbjbmpfaaGreatDoorTie.lean); close each card by the builder's one call (the guide's Derived/Test/ToyasCard.lean, 'card_holds'). Laid BY PROGRAM, IN A SANDBOX (cutbox-door.mjs). By AI agents, Wed Nov 11 2026. No macro, syntax, notation, axiom, sorry.
-/
import Derived.Test.YtoclkhdbjbmpfaaGreatDoorRows
import GoSem.ClaimSeven
namespace Go.Proofs.YtoclkhdbjbmpfaaGreatDoor
namespace Rows

/-- THE TIED CARD OF 'laws.FnExactCreaseText'. -/
def fnExactCreaseTextCard : Claim7 := { stood := { row := fnExactCreaseTextRow, standIns := [], harness := (true, "11ffbb3d1b291cb4342e4055be2d895d2656498ae07ce818d8c9d4fb2f2a3b9d"), looks := false }, kinds := [], alts := [], laidByText := true, laidKinds := [.data, .data, .data, .data], laidTests := true, laidLooks := .later }
def FnExactCreaseTextCardSaid : Prop := Claim7.holds Tryz.pinned (.plain (OpenSpec.ofChange fnExactCreaseTextSpec)) fnExactCreaseTextCard

/-- THE SECOND FORM's CARD OF 'laws.FnExactCreaseText'. -/
def fnExactCreaseTextUptoCard : Claim7 := { stood := { row := fnExactCreaseTextUptoRow, standIns := [], harness := (true, "11ffbb3d1b291cb4342e4055be2d895d2656498ae07ce818d8c9d4fb2f2a3b9d"), looks := false }, kinds := [], alts := [], laidByText := true, laidKinds := [.data, .data, .data, .data], laidTests := true, laidLooks := .later }
def FnExactCreaseTextUptoCardSaid : Prop := Claim7.holds Tryz.pinned (.plain (OpenSpec.upto fnExactCreaseTextSpec)) fnExactCreaseTextUptoCard
end Rows
end Go.Proofs.YtoclkhdbjbmpfaaGreatDoor
