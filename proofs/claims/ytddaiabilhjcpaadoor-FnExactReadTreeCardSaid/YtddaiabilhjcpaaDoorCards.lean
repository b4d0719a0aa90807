/-
  DERIVED. GIVEN WITH THE SEED: THE CARDS: each row of YtddaiabilhjcpaaDoorRows.lean that lists a variable, with what it lists TIED to the program's text (the seventh form; the later family's looks); each row that meets fmt, with fmt's text TOLD by the authors' own Lean function (tested against real Go, not proved from fmt's source: count such statements apart). THE CARD IS WHAT COUNTS. Prove the row's statement (the work); the ties are given (YtddaiabilhjcpaaDoorTie.lean); close each card by the builder's one call (the guide's Derived/Test/ToyasCard.lean, 'card_holds'). Laid BY PROGRAM, IN A SANDBOX (cutbox-door.mjs). By AI agents, Wed Nov 11 2026. No macro, syntax, notation, axiom, sorry.
-/
import Derived.Test.YtddaiabilhjcpaaDoorRows
import GoSem.ClaimSeven
namespace Go.Proofs.YtddaiabilhjcpaaDoor
namespace Rows

/-- THE TIED CARD OF 'laws.FnTrees'. -/
def fnTreesCard : Claim7 := { stood := { row := fnTreesRow, standIns := [], harness := (true, "07ae75fac3d487af6b8cea860687b64fc71cef2cbb2c4ffc9a29059363327bbc"), looks := true }, kinds := [], alts := [], laidByText := true, laidKinds := [.data, .data, .data, .data, .sentinel, .sentinel, .pinned], laidTests := true, laidLooks := .later }
def FnTreesCardSaid : Prop := Claim7.holds Tryd.pinned (.plain (OpenSpec.ofChange fnTreesSpec)) fnTreesCard

/-- THE TIED CARD OF 'laws.FnExactReadTree'. -/
def fnExactReadTreeCard : Claim7 := { stood := { row := fnExactReadTreeRow, standIns := [], harness := (true, "07ae75fac3d487af6b8cea860687b64fc71cef2cbb2c4ffc9a29059363327bbc"), looks := true }, kinds := [], alts := [], laidByText := true, laidKinds := [.data, .data, .data, .data, .sentinel, .sentinel, .pinned], laidTests := true, laidLooks := .later }
def FnExactReadTreeCardSaid : Prop := Claim7.holds Tryd.pinned (.plain (OpenSpec.ofChange fnExactReadTreeSpec)) fnExactReadTreeCard

/-- THE SECOND FORM's CARD OF 'laws.FnTrees'. -/
def fnTreesUptoCard : Claim7 := { stood := { row := fnTreesUptoRow, standIns := [], harness := (true, "07ae75fac3d487af6b8cea860687b64fc71cef2cbb2c4ffc9a29059363327bbc"), looks := true }, kinds := [], alts := [], laidByText := true, laidKinds := [.data, .data, .data, .data, .sentinel, .sentinel, .pinned], laidTests := true, laidLooks := .later }
def FnTreesUptoCardSaid : Prop := Claim7.holds Tryd.pinned (.plain (OpenSpec.upto fnTreesSpec)) fnTreesUptoCard

/-- THE SECOND FORM's CARD OF 'laws.FnExactReadTree'. -/
def fnExactReadTreeUptoCard : Claim7 := { stood := { row := fnExactReadTreeUptoRow, standIns := [], harness := (true, "07ae75fac3d487af6b8cea860687b64fc71cef2cbb2c4ffc9a29059363327bbc"), looks := true }, kinds := [], alts := [], laidByText := true, laidKinds := [.data, .data, .data, .data, .sentinel, .sentinel, .pinned], laidTests := true, laidLooks := .later }
def FnExactReadTreeUptoCardSaid : Prop := Claim7.holds Tryd.pinned (.plain (OpenSpec.upto fnExactReadTreeSpec)) fnExactReadTreeUptoCard
end Rows
end Go.Proofs.YtddaiabilhjcpaaDoor
