/-
  No cell of these rows narrows 'for every input' (looked for: loops, veiled, ifaces, maps, wideKeys, modest, calm, conditions, laid).
  DERIVED. THE GIVEN ROWS OF THIS SEAT. 3 by the template 'for every input the law returns true; each argument reads behind the call as it read before'; 0 by the template 'total and deterministic' (their statements: YtmckbecegiegaaaTotals.lean).
  GIVEN WITH THE SEED: the statements are not yours to turn. If you find one false, say at which input.
  Laid BY PROGRAM, IN A SANDBOX (cutbox-rows.mjs): the forced cells as the released guide's own fill.sh prints them over the translation eeb0920e0a119b2a… (all of the seat's roots in one cut). By AI agents, Wed Nov 11 2026. No macro, syntax, notation, axiom, sorry.
-/
import Derived.Test.YtmckbecegiegaaaChecked
import GoSem.Claim
import GoSem.ClaimJoined
import GoSem.ClaimMapViews
import Derived.JoinedTies
import Derived.KernelRfl
namespace Go.Proofs.Ytmckbecegiegaaa
/- THE CELL 'sum', in the pinned program and in every row, IS THE sha256 OF THE DUMP (.gsa) THAT YtmckbecegiegaaaProg.lean LOADS. Nothing in Lean hashes anything: it is a label: what it is worth is what the hold of that sum in a sandbox is worth. -/
noncomputable def Try.pinned : Pinned := { name := "ytmckbecegiegaaa", sum := "eeb0920e0a119b2af7cc50531dbf2e125323505e6076527a055dcbd903587971", checked := Try.checked }
namespace Rows
def none {H : Type} : Left H := { results := [], args := [] }

/-- 'laws.FnPackings': WHATEVER THE INPUT: true; the input reads as it did. -/
def fnPackingsSpec : ChangeSpec := { name := "fnPackings", fn := fun _ => fun
  | [d1, d2] => { results := [.lit (.bool true)], args := [d1, d2] }
  | _ => none }
def fnPackingsRow : OpenClaim := { program := "ytmckbecegiegaaa", sum := "eeb0920e0a119b2af7cc50531dbf2e125323505e6076527a055dcbd903587971", func := "loop.example/g00857/laws.FnPackings", spec := "fnPackings", recurses := true, apart := false }
def FnPackingsSaid : Prop := fnPackingsRow.holds Try.pinned (OpenSpec.ofChange fnPackingsSpec)

/-- ITS FALSE NEIGHBOUR: 'it returns false'. Refute it at one input. -/
def fnPackingsWrong : ChangeSpec := { name := "fnPackings", fn := fun _ => fun
  | [d1, d2] => { results := [.lit (.bool false)], args := [d1, d2] }
  | _ => none }
def FnPackingsWrongFalsely : Prop := fnPackingsRow.holds Try.pinned (OpenSpec.ofChange fnPackingsWrong)

/-- 'laws.FnExactSmallestSide': WHATEVER THE INPUT: true; the input reads as it did. -/
def fnExactSmallestSideSpec : ChangeSpec := { name := "fnExactSmallestSide", fn := fun _ => fun
  | [d1, d2, d3] => { results := [.lit (.bool true)], args := [d1, d2, d3] }
  | _ => none }
def fnExactSmallestSideRow : OpenClaim := { program := "ytmckbecegiegaaa", sum := "eeb0920e0a119b2af7cc50531dbf2e125323505e6076527a055dcbd903587971", func := "loop.example/g00857/laws.FnExactSmallestSide", spec := "fnExactSmallestSide", recurses := true, apart := false }
def FnExactSmallestSideSaid : Prop := fnExactSmallestSideRow.holds Try.pinned (OpenSpec.ofChange fnExactSmallestSideSpec)

/-- ITS FALSE NEIGHBOUR: 'it returns false'. Refute it at one input. -/
def fnExactSmallestSideWrong : ChangeSpec := { name := "fnExactSmallestSide", fn := fun _ => fun
  | [d1, d2, d3] => { results := [.lit (.bool false)], args := [d1, d2, d3] }
  | _ => none }
def FnExactSmallestSideWrongFalsely : Prop := fnExactSmallestSideRow.holds Try.pinned (OpenSpec.ofChange fnExactSmallestSideWrong)

/-- 'laws.FnExactFirstPacking': WHATEVER THE INPUT: true; the input reads as it did. -/
def fnExactFirstPackingSpec : ChangeSpec := { name := "fnExactFirstPacking", fn := fun _ => fun
  | [d1, d2, d3] => { results := [.lit (.bool true)], args := [d1, d2, d3] }
  | _ => none }
def fnExactFirstPackingRow : OpenClaim := { program := "ytmckbecegiegaaa", sum := "eeb0920e0a119b2af7cc50531dbf2e125323505e6076527a055dcbd903587971", func := "loop.example/g00857/laws.FnExactFirstPacking", spec := "fnExactFirstPacking", recurses := true, apart := false }
def FnExactFirstPackingSaid : Prop := fnExactFirstPackingRow.holds Try.pinned (OpenSpec.ofChange fnExactFirstPackingSpec)

/-- ITS FALSE NEIGHBOUR: 'it returns false'. Refute it at one input. -/
def fnExactFirstPackingWrong : ChangeSpec := { name := "fnExactFirstPacking", fn := fun _ => fun
  | [d1, d2, d3] => { results := [.lit (.bool false)], args := [d1, d2, d3] }
  | _ => none }
def FnExactFirstPackingWrongFalsely : Prop := fnExactFirstPackingRow.holds Try.pinned (OpenSpec.ofChange fnExactFirstPackingWrong)

/- THE SECOND FORM. 'bulk': how many values and letters a reading holds, each counted each time it is reached (what is shared counts as often as it is met; a slice's spare places count too). A statement '..UptoSaid' is the law's where the arguments, and the package variables that the reading takes, are together of bulk at most 1048576: NARROWER than '..Said'. Prove '..Said' where nothing that the law and all that it calls make is longer than what came in: it says more and counts as full. Else prove '..UptoSaid'. A law counts once. -/
mutual
def uptoBulk {H : Type} : DataW H → Nat
  | .lit (.string bytes) => bytes.length + 1
  | .lit _ => 1
  | .nil => 1
  | .ptr d => uptoBulk d + 1
  | .slice elems spare => uptoBulkAll elems + uptoBulkAll spare + 1
  | .agg parts => uptoBulkAll parts + 1
  | .iface _ d => uptoBulk d + 1
  | .map entries => uptoBulkEntries entries + 1
  | .held _ => 1
def uptoBulkAll {H : Type} : List (DataW H) → Nat
  | [] => 0
  | d :: r => uptoBulk d + uptoBulkAll r
def uptoBulkEntries {H : Type} : List (Lit × DataW H) → Nat
  | [] => 0
  | x :: r => uptoBulkEntry x + uptoBulkEntries r
def uptoBulkEntry {H : Type} : Lit × DataW H → Nat
  | (.string bytes, d) => bytes.length + uptoBulk d + 1
  | (_, d) => uptoBulk d + 1
 end
def uptoSmall : (H : Type) → List (DataW H) → Bool := fun _ ds => decide (uptoBulkAll ds ≤ 1048576)
def OpenSpec.upto (s : _root_.Go.ChangeSpec) : _root_.Go.OpenSpec := { _root_.Go.OpenSpec.ofChange s with cond := some uptoSmall }

/-- 'laws.FnPackings', WHERE WHAT IT READS IS OF BULK AT MOST 1048576: true; the input reads as it did. -/
def fnPackingsUptoRow : OpenClaim := { program := "ytmckbecegiegaaa", sum := "eeb0920e0a119b2af7cc50531dbf2e125323505e6076527a055dcbd903587971", func := "loop.example/g00857/laws.FnPackings", spec := "fnPackings", recurses := true, apart := false, narrowed := true }
def FnPackingsUptoSaid : Prop := fnPackingsUptoRow.holds Try.pinned (OpenSpec.upto fnPackingsSpec)

/-- 'laws.FnExactSmallestSide', WHERE WHAT IT READS IS OF BULK AT MOST 1048576: true; the input reads as it did. -/
def fnExactSmallestSideUptoRow : OpenClaim := { program := "ytmckbecegiegaaa", sum := "eeb0920e0a119b2af7cc50531dbf2e125323505e6076527a055dcbd903587971", func := "loop.example/g00857/laws.FnExactSmallestSide", spec := "fnExactSmallestSide", recurses := true, apart := false, narrowed := true }
def FnExactSmallestSideUptoSaid : Prop := fnExactSmallestSideUptoRow.holds Try.pinned (OpenSpec.upto fnExactSmallestSideSpec)

/-- 'laws.FnExactFirstPacking', WHERE WHAT IT READS IS OF BULK AT MOST 1048576: true; the input reads as it did. -/
def fnExactFirstPackingUptoRow : OpenClaim := { program := "ytmckbecegiegaaa", sum := "eeb0920e0a119b2af7cc50531dbf2e125323505e6076527a055dcbd903587971", func := "loop.example/g00857/laws.FnExactFirstPacking", spec := "fnExactFirstPacking", recurses := true, apart := false, narrowed := true }
def FnExactFirstPackingUptoSaid : Prop := fnExactFirstPackingUptoRow.holds Try.pinned (OpenSpec.upto fnExactFirstPackingSpec)

end Rows
end Go.Proofs.Ytmckbecegiegaaa
