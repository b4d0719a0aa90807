/-
  No cell of these rows narrows 'for every input' (looked for: loops, veiled, ifaces, maps, wideKeys, modest, calm, conditions, laid).
  DERIVED. THE GIVEN ROWS OF THIS SEAT. 11 by the template 'for every input the law returns true; each argument reads behind the call as it read before'; 0 by the template 'total and deterministic' (their statements: YtnbhnkpefhdgjaaTotals.lean).
  GIVEN WITH THE SEED: the statements are not yours to turn. If you find one false, say at which input.
  Laid BY PROGRAM, IN A SANDBOX (cutbox-rows.mjs): the forced cells as the released guide's own fill.sh prints them over the translation 8ff3f666981b06bf… (all of the seat's roots in one cut). By AI agents, Wed Nov 11 2026. No macro, syntax, notation, axiom, sorry.
-/
import Derived.Test.YtnbhnkpefhdgjaaChecked
import GoSem.Claim
import GoSem.ClaimJoined
import GoSem.ClaimMapViews
import Derived.JoinedTies
import Derived.KernelRfl
namespace Go.Proofs.Ytnbhnkpefhdgjaa
/- THE CELL 'sum', in the pinned program and in every row, IS THE sha256 OF THE DUMP (.gsa) THAT YtnbhnkpefhdgjaaProg.lean LOADS. Nothing in Lean hashes anything: it is a label: what it is worth is what the hold of that sum in a sandbox is worth. -/
noncomputable def Try.pinned : Pinned := { name := "ytnbhnkpefhdgjaa", sum := "8ff3f666981b06bf1ac75fead12962e5f8cdba35e1e01d1a516c616423db4497", checked := Try.checked }
namespace Rows
def none {H : Type} : Left H := { results := [], args := [] }

/-- 'laws.FnExactSameTree': WHATEVER THE INPUT: true; the input reads as it did. -/
def fnExactSameTreeSpec : ChangeSpec := { name := "fnExactSameTree", fn := fun _ => fun
  | [d1, d2] => { results := [.lit (.bool true)], args := [d1, d2] }
  | _ => none }
def fnExactSameTreeRow : OpenClaim := { program := "ytnbhnkpefhdgjaa", sum := "8ff3f666981b06bf1ac75fead12962e5f8cdba35e1e01d1a516c616423db4497", func := "loop.example/g00857/laws.FnExactSameTree", spec := "fnExactSameTree", apart := false }
def FnExactSameTreeSaid : Prop := fnExactSameTreeRow.holds Try.pinned (OpenSpec.ofChange fnExactSameTreeSpec)

/-- ITS FALSE NEIGHBOUR: 'it returns false'. Refute it at one input. -/
def fnExactSameTreeWrong : ChangeSpec := { name := "fnExactSameTree", fn := fun _ => fun
  | [d1, d2] => { results := [.lit (.bool false)], args := [d1, d2] }
  | _ => none }
def FnExactSameTreeWrongFalsely : Prop := fnExactSameTreeRow.holds Try.pinned (OpenSpec.ofChange fnExactSameTreeWrong)

/-- 'laws.FnExactValidTree': WHATEVER THE INPUT: true; the input reads as it did. -/
def fnExactValidTreeSpec : ChangeSpec := { name := "fnExactValidTree", fn := fun _ => fun
  | [d] => { results := [.lit (.bool true)], args := [d] }
  | _ => none }
def fnExactValidTreeRow : OpenClaim := { program := "ytnbhnkpefhdgjaa", sum := "8ff3f666981b06bf1ac75fead12962e5f8cdba35e1e01d1a516c616423db4497", func := "loop.example/g00857/laws.FnExactValidTree", spec := "fnExactValidTree", apart := false }
def FnExactValidTreeSaid : Prop := fnExactValidTreeRow.holds Try.pinned (OpenSpec.ofChange fnExactValidTreeSpec)

/-- ITS FALSE NEIGHBOUR: 'it returns false'. Refute it at one input. -/
def fnExactValidTreeWrong : ChangeSpec := { name := "fnExactValidTree", fn := fun _ => fun
  | [d] => { results := [.lit (.bool false)], args := [d] }
  | _ => none }
def FnExactValidTreeWrongFalsely : Prop := fnExactValidTreeRow.holds Try.pinned (OpenSpec.ofChange fnExactValidTreeWrong)

/-- 'laws.FnExactTreeDistance': WHATEVER THE INPUT: true; the input reads as it did. -/
def fnExactTreeDistanceSpec : ChangeSpec := { name := "fnExactTreeDistance", fn := fun _ => fun
  | [d1, d2, d3] => { results := [.lit (.bool true)], args := [d1, d2, d3] }
  | _ => none }
def fnExactTreeDistanceRow : OpenClaim := { program := "ytnbhnkpefhdgjaa", sum := "8ff3f666981b06bf1ac75fead12962e5f8cdba35e1e01d1a516c616423db4497", func := "loop.example/g00857/laws.FnExactTreeDistance", spec := "fnExactTreeDistance", apart := false }
def FnExactTreeDistanceSaid : Prop := fnExactTreeDistanceRow.holds Try.pinned (OpenSpec.ofChange fnExactTreeDistanceSpec)

/-- ITS FALSE NEIGHBOUR: 'it returns false'. Refute it at one input. -/
def fnExactTreeDistanceWrong : ChangeSpec := { name := "fnExactTreeDistance", fn := fun _ => fun
  | [d1, d2, d3] => { results := [.lit (.bool false)], args := [d1, d2, d3] }
  | _ => none }
def FnExactTreeDistanceWrongFalsely : Prop := fnExactTreeDistanceRow.holds Try.pinned (OpenSpec.ofChange fnExactTreeDistanceWrong)

/-- 'laws.FnExactTreeWay': WHATEVER THE INPUT: true; the input reads as it did. -/
def fnExactTreeWaySpec : ChangeSpec := { name := "fnExactTreeWay", fn := fun _ => fun
  | [d1, d2, d3] => { results := [.lit (.bool true)], args := [d1, d2, d3] }
  | _ => none }
def fnExactTreeWayRow : OpenClaim := { program := "ytnbhnkpefhdgjaa", sum := "8ff3f666981b06bf1ac75fead12962e5f8cdba35e1e01d1a516c616423db4497", func := "loop.example/g00857/laws.FnExactTreeWay", spec := "fnExactTreeWay", apart := false }
def FnExactTreeWaySaid : Prop := fnExactTreeWayRow.holds Try.pinned (OpenSpec.ofChange fnExactTreeWaySpec)

/-- ITS FALSE NEIGHBOUR: 'it returns false'. Refute it at one input. -/
def fnExactTreeWayWrong : ChangeSpec := { name := "fnExactTreeWay", fn := fun _ => fun
  | [d1, d2, d3] => { results := [.lit (.bool false)], args := [d1, d2, d3] }
  | _ => none }
def FnExactTreeWayWrongFalsely : Prop := fnExactTreeWayRow.holds Try.pinned (OpenSpec.ofChange fnExactTreeWayWrong)

/-- 'laws.FnExactLeavesOf': WHATEVER THE INPUT: true; the input reads as it did. -/
def fnExactLeavesOfSpec : ChangeSpec := { name := "fnExactLeavesOf", fn := fun _ => fun
  | [d] => { results := [.lit (.bool true)], args := [d] }
  | _ => none }
def fnExactLeavesOfRow : OpenClaim := { program := "ytnbhnkpefhdgjaa", sum := "8ff3f666981b06bf1ac75fead12962e5f8cdba35e1e01d1a516c616423db4497", func := "loop.example/g00857/laws.FnExactLeavesOf", spec := "fnExactLeavesOf", apart := false }
def FnExactLeavesOfSaid : Prop := fnExactLeavesOfRow.holds Try.pinned (OpenSpec.ofChange fnExactLeavesOfSpec)

/-- ITS FALSE NEIGHBOUR: 'it returns false'. Refute it at one input. -/
def fnExactLeavesOfWrong : ChangeSpec := { name := "fnExactLeavesOf", fn := fun _ => fun
  | [d] => { results := [.lit (.bool false)], args := [d] }
  | _ => none }
def FnExactLeavesOfWrongFalsely : Prop := fnExactLeavesOfRow.holds Try.pinned (OpenSpec.ofChange fnExactLeavesOfWrong)

/-- 'laws.FnExactLeafDistances': WHATEVER THE INPUT: true; the input reads as it did. -/
def fnExactLeafDistancesSpec : ChangeSpec := { name := "fnExactLeafDistances", fn := fun _ => fun
  | [d] => { results := [.lit (.bool true)], args := [d] }
  | _ => none }
def fnExactLeafDistancesRow : OpenClaim := { program := "ytnbhnkpefhdgjaa", sum := "8ff3f666981b06bf1ac75fead12962e5f8cdba35e1e01d1a516c616423db4497", func := "loop.example/g00857/laws.FnExactLeafDistances", spec := "fnExactLeafDistances", apart := false }
def FnExactLeafDistancesSaid : Prop := fnExactLeafDistancesRow.holds Try.pinned (OpenSpec.ofChange fnExactLeafDistancesSpec)

/-- ITS FALSE NEIGHBOUR: 'it returns false'. Refute it at one input. -/
def fnExactLeafDistancesWrong : ChangeSpec := { name := "fnExactLeafDistances", fn := fun _ => fun
  | [d] => { results := [.lit (.bool false)], args := [d] }
  | _ => none }
def FnExactLeafDistancesWrongFalsely : Prop := fnExactLeafDistancesRow.holds Try.pinned (OpenSpec.ofChange fnExactLeafDistancesWrong)

/-- 'laws.FnExactValidPacking': WHATEVER THE INPUT: true; the input reads as it did. -/
def fnExactValidPackingSpec : ChangeSpec := { name := "fnExactValidPacking", fn := fun _ => fun
  | [d1, d2, d3] => { results := [.lit (.bool true)], args := [d1, d2, d3] }
  | _ => none }
def fnExactValidPackingRow : OpenClaim := { program := "ytnbhnkpefhdgjaa", sum := "8ff3f666981b06bf1ac75fead12962e5f8cdba35e1e01d1a516c616423db4497", func := "loop.example/g00857/laws.FnExactValidPacking", spec := "fnExactValidPacking", apart := false }
def FnExactValidPackingSaid : Prop := fnExactValidPackingRow.holds Try.pinned (OpenSpec.ofChange fnExactValidPackingSpec)

/-- ITS FALSE NEIGHBOUR: 'it returns false'. Refute it at one input. -/
def fnExactValidPackingWrong : ChangeSpec := { name := "fnExactValidPacking", fn := fun _ => fun
  | [d1, d2, d3] => { results := [.lit (.bool false)], args := [d1, d2, d3] }
  | _ => none }
def FnExactValidPackingWrongFalsely : Prop := fnExactValidPackingRow.holds Try.pinned (OpenSpec.ofChange fnExactValidPackingWrong)

/-- 'laws.FnExactSmallestSide': WHATEVER THE INPUT: true; the input reads as it did. -/
def fnExactSmallestSideSpec : ChangeSpec := { name := "fnExactSmallestSide", fn := fun _ => fun
  | [d1, d2, d3] => { results := [.lit (.bool true)], args := [d1, d2, d3] }
  | _ => none }
def fnExactSmallestSideRow : OpenClaim := { program := "ytnbhnkpefhdgjaa", sum := "8ff3f666981b06bf1ac75fead12962e5f8cdba35e1e01d1a516c616423db4497", func := "loop.example/g00857/laws.FnExactSmallestSide", spec := "fnExactSmallestSide", recurses := true, apart := false }
def FnExactSmallestSideSaid : Prop := fnExactSmallestSideRow.holds Try.pinned (OpenSpec.ofChange fnExactSmallestSideSpec)

/-- ITS FALSE NEIGHBOUR: 'it returns false'. Refute it at one input. -/
def fnExactSmallestSideWrong : ChangeSpec := { name := "fnExactSmallestSide", fn := fun _ => fun
  | [d1, d2, d3] => { results := [.lit (.bool false)], args := [d1, d2, d3] }
  | _ => none }
def FnExactSmallestSideWrongFalsely : Prop := fnExactSmallestSideRow.holds Try.pinned (OpenSpec.ofChange fnExactSmallestSideWrong)

/-- 'laws.FnExactFirstPacking': WHATEVER THE INPUT: true; the input reads as it did. -/
def fnExactFirstPackingSpec : ChangeSpec := { name := "fnExactFirstPacking", fn := fun _ => fun
  | [d1, d2, d3] => { results := [.lit (.bool true)], args := [d1, d2, d3] }
  | _ => none }
def fnExactFirstPackingRow : OpenClaim := { program := "ytnbhnkpefhdgjaa", sum := "8ff3f666981b06bf1ac75fead12962e5f8cdba35e1e01d1a516c616423db4497", func := "loop.example/g00857/laws.FnExactFirstPacking", spec := "fnExactFirstPacking", recurses := true, apart := false }
def FnExactFirstPackingSaid : Prop := fnExactFirstPackingRow.holds Try.pinned (OpenSpec.ofChange fnExactFirstPackingSpec)

/-- ITS FALSE NEIGHBOUR: 'it returns false'. Refute it at one input. -/
def fnExactFirstPackingWrong : ChangeSpec := { name := "fnExactFirstPacking", fn := fun _ => fun
  | [d1, d2, d3] => { results := [.lit (.bool false)], args := [d1, d2, d3] }
  | _ => none }
def FnExactFirstPackingWrongFalsely : Prop := fnExactFirstPackingRow.holds Try.pinned (OpenSpec.ofChange fnExactFirstPackingWrong)

/-- 'laws.FnExactActivePairs': WHATEVER THE INPUT: true; the input reads as it did. -/
def fnExactActivePairsSpec : ChangeSpec := { name := "fnExactActivePairs", fn := fun _ => fun
  | [d1, d2, d3] => { results := [.lit (.bool true)], args := [d1, d2, d3] }
  | _ => none }
def fnExactActivePairsRow : OpenClaim := { program := "ytnbhnkpefhdgjaa", sum := "8ff3f666981b06bf1ac75fead12962e5f8cdba35e1e01d1a516c616423db4497", func := "loop.example/g00857/laws.FnExactActivePairs", spec := "fnExactActivePairs", apart := false }
def FnExactActivePairsSaid : Prop := fnExactActivePairsRow.holds Try.pinned (OpenSpec.ofChange fnExactActivePairsSpec)

/-- ITS FALSE NEIGHBOUR: 'it returns false'. Refute it at one input. -/
def fnExactActivePairsWrong : ChangeSpec := { name := "fnExactActivePairs", fn := fun _ => fun
  | [d1, d2, d3] => { results := [.lit (.bool false)], args := [d1, d2, d3] }
  | _ => none }
def FnExactActivePairsWrongFalsely : Prop := fnExactActivePairsRow.holds Try.pinned (OpenSpec.ofChange fnExactActivePairsWrong)

/-- 'laws.FnPackings': WHATEVER THE INPUT: true; the input reads as it did. -/
def fnPackingsSpec : ChangeSpec := { name := "fnPackings", fn := fun _ => fun
  | [d1, d2] => { results := [.lit (.bool true)], args := [d1, d2] }
  | _ => none }
def fnPackingsRow : OpenClaim := { program := "ytnbhnkpefhdgjaa", sum := "8ff3f666981b06bf1ac75fead12962e5f8cdba35e1e01d1a516c616423db4497", func := "loop.example/g00857/laws.FnPackings", spec := "fnPackings", recurses := true, apart := false }
def FnPackingsSaid : Prop := fnPackingsRow.holds Try.pinned (OpenSpec.ofChange fnPackingsSpec)

/-- ITS FALSE NEIGHBOUR: 'it returns false'. Refute it at one input. -/
def fnPackingsWrong : ChangeSpec := { name := "fnPackings", fn := fun _ => fun
  | [d1, d2] => { results := [.lit (.bool false)], args := [d1, d2] }
  | _ => none }
def FnPackingsWrongFalsely : Prop := fnPackingsRow.holds Try.pinned (OpenSpec.ofChange fnPackingsWrong)

/- THE SECOND FORM. 'bulk': how many values and letters a reading holds, each counted each time it is reached (what is shared counts as often as it is met; a slice's spare places count too). A statement '..UptoSaid' is the law's where the arguments, and the package variables that the reading takes, are together of bulk at most 1048576: NARROWER than '..Said'. Prove '..Said' where nothing that the law and all that it calls make is longer than what came in: it says more and counts as full. Else prove '..UptoSaid'. A law counts once. -/
mutual
def uptoBulk {H : Type} : DataW H → Nat
  | .lit (.string bytes) => bytes.length + 1
  | .lit _ => 1
  | .nil => 1
  | .ptr d => uptoBulk d + 1
  | .slice elems spare => uptoBulkAll elems + uptoBulkAll spare + 1
  | .agg parts => uptoBulkAll parts + 1
  | .iface _ d => uptoBulk d + 1
  | .map entries => uptoBulkEntries entries + 1
  | .held _ => 1
def uptoBulkAll {H : Type} : List (DataW H) → Nat
  | [] => 0
  | d :: r => uptoBulk d + uptoBulkAll r
def uptoBulkEntries {H : Type} : List (Lit × DataW H) → Nat
  | [] => 0
  | x :: r => uptoBulkEntry x + uptoBulkEntries r
def uptoBulkEntry {H : Type} : Lit × DataW H → Nat
  | (.string bytes, d) => bytes.length + uptoBulk d + 1
  | (_, d) => uptoBulk d + 1
 end
def uptoSmall : (H : Type) → List (DataW H) → Bool := fun _ ds => decide (uptoBulkAll ds ≤ 1048576)
def OpenSpec.upto (s : _root_.Go.ChangeSpec) : _root_.Go.OpenSpec := { _root_.Go.OpenSpec.ofChange s with cond := some uptoSmall }

/-- 'laws.FnExactSameTree', WHERE WHAT IT READS IS OF BULK AT MOST 1048576: true; the input reads as it did. -/
def fnExactSameTreeUptoRow : OpenClaim := { program := "ytnbhnkpefhdgjaa", sum := "8ff3f666981b06bf1ac75fead12962e5f8cdba35e1e01d1a516c616423db4497", func := "loop.example/g00857/laws.FnExactSameTree", spec := "fnExactSameTree", apart := false, narrowed := true }
def FnExactSameTreeUptoSaid : Prop := fnExactSameTreeUptoRow.holds Try.pinned (OpenSpec.upto fnExactSameTreeSpec)

/-- 'laws.FnExactValidTree', WHERE WHAT IT READS IS OF BULK AT MOST 1048576: true; the input reads as it did. -/
def fnExactValidTreeUptoRow : OpenClaim := { program := "ytnbhnkpefhdgjaa", sum := "8ff3f666981b06bf1ac75fead12962e5f8cdba35e1e01d1a516c616423db4497", func := "loop.example/g00857/laws.FnExactValidTree", spec := "fnExactValidTree", apart := false, narrowed := true }
def FnExactValidTreeUptoSaid : Prop := fnExactValidTreeUptoRow.holds Try.pinned (OpenSpec.upto fnExactValidTreeSpec)

/-- 'laws.FnExactTreeDistance', WHERE WHAT IT READS IS OF BULK AT MOST 1048576: true; the input reads as it did. -/
def fnExactTreeDistanceUptoRow : OpenClaim := { program := "ytnbhnkpefhdgjaa", sum := "8ff3f666981b06bf1ac75fead12962e5f8cdba35e1e01d1a516c616423db4497", func := "loop.example/g00857/laws.FnExactTreeDistance", spec := "fnExactTreeDistance", apart := false, narrowed := true }
def FnExactTreeDistanceUptoSaid : Prop := fnExactTreeDistanceUptoRow.holds Try.pinned (OpenSpec.upto fnExactTreeDistanceSpec)

/-- 'laws.FnExactTreeWay', WHERE WHAT IT READS IS OF BULK AT MOST 1048576: true; the input reads as it did. -/
def fnExactTreeWayUptoRow : OpenClaim := { program := "ytnbhnkpefhdgjaa", sum := "8ff3f666981b06bf1ac75fead12962e5f8cdba35e1e01d1a516c616423db4497", func := "loop.example/g00857/laws.FnExactTreeWay", spec := "fnExactTreeWay", apart := false, narrowed := true }
def FnExactTreeWayUptoSaid : Prop := fnExactTreeWayUptoRow.holds Try.pinned (OpenSpec.upto fnExactTreeWaySpec)

/-- 'laws.FnExactLeavesOf', WHERE WHAT IT READS IS OF BULK AT MOST 1048576: true; the input reads as it did. -/
def fnExactLeavesOfUptoRow : OpenClaim := { program := "ytnbhnkpefhdgjaa", sum := "8ff3f666981b06bf1ac75fead12962e5f8cdba35e1e01d1a516c616423db4497", func := "loop.example/g00857/laws.FnExactLeavesOf", spec := "fnExactLeavesOf", apart := false, narrowed := true }
def FnExactLeavesOfUptoSaid : Prop := fnExactLeavesOfUptoRow.holds Try.pinned (OpenSpec.upto fnExactLeavesOfSpec)

/-- 'laws.FnExactLeafDistances', WHERE WHAT IT READS IS OF BULK AT MOST 1048576: true; the input reads as it did. -/
def fnExactLeafDistancesUptoRow : OpenClaim := { program := "ytnbhnkpefhdgjaa", sum := "8ff3f666981b06bf1ac75fead12962e5f8cdba35e1e01d1a516c616423db4497", func := "loop.example/g00857/laws.FnExactLeafDistances", spec := "fnExactLeafDistances", apart := false, narrowed := true }
def FnExactLeafDistancesUptoSaid : Prop := fnExactLeafDistancesUptoRow.holds Try.pinned (OpenSpec.upto fnExactLeafDistancesSpec)

/-- 'laws.FnExactValidPacking', WHERE WHAT IT READS IS OF BULK AT MOST 1048576: true; the input reads as it did. -/
def fnExactValidPackingUptoRow : OpenClaim := { program := "ytnbhnkpefhdgjaa", sum := "8ff3f666981b06bf1ac75fead12962e5f8cdba35e1e01d1a516c616423db4497", func := "loop.example/g00857/laws.FnExactValidPacking", spec := "fnExactValidPacking", apart := false, narrowed := true }
def FnExactValidPackingUptoSaid : Prop := fnExactValidPackingUptoRow.holds Try.pinned (OpenSpec.upto fnExactValidPackingSpec)

/-- 'laws.FnExactSmallestSide', WHERE WHAT IT READS IS OF BULK AT MOST 1048576: true; the input reads as it did. -/
def fnExactSmallestSideUptoRow : OpenClaim := { program := "ytnbhnkpefhdgjaa", sum := "8ff3f666981b06bf1ac75fead12962e5f8cdba35e1e01d1a516c616423db4497", func := "loop.example/g00857/laws.FnExactSmallestSide", spec := "fnExactSmallestSide", recurses := true, apart := false, narrowed := true }
def FnExactSmallestSideUptoSaid : Prop := fnExactSmallestSideUptoRow.holds Try.pinned (OpenSpec.upto fnExactSmallestSideSpec)

/-- 'laws.FnExactFirstPacking', WHERE WHAT IT READS IS OF BULK AT MOST 1048576: true; the input reads as it did. -/
def fnExactFirstPackingUptoRow : OpenClaim := { program := "ytnbhnkpefhdgjaa", sum := "8ff3f666981b06bf1ac75fead12962e5f8cdba35e1e01d1a516c616423db4497", func := "loop.example/g00857/laws.FnExactFirstPacking", spec := "fnExactFirstPacking", recurses := true, apart := false, narrowed := true }
def FnExactFirstPackingUptoSaid : Prop := fnExactFirstPackingUptoRow.holds Try.pinned (OpenSpec.upto fnExactFirstPackingSpec)

/-- 'laws.FnExactActivePairs', WHERE WHAT IT READS IS OF BULK AT MOST 1048576: true; the input reads as it did. -/
def fnExactActivePairsUptoRow : OpenClaim := { program := "ytnbhnkpefhdgjaa", sum := "8ff3f666981b06bf1ac75fead12962e5f8cdba35e1e01d1a516c616423db4497", func := "loop.example/g00857/laws.FnExactActivePairs", spec := "fnExactActivePairs", apart := false, narrowed := true }
def FnExactActivePairsUptoSaid : Prop := fnExactActivePairsUptoRow.holds Try.pinned (OpenSpec.upto fnExactActivePairsSpec)

/-- 'laws.FnPackings', WHERE WHAT IT READS IS OF BULK AT MOST 1048576: true; the input reads as it did. -/
def fnPackingsUptoRow : OpenClaim := { program := "ytnbhnkpefhdgjaa", sum := "8ff3f666981b06bf1ac75fead12962e5f8cdba35e1e01d1a516c616423db4497", func := "loop.example/g00857/laws.FnPackings", spec := "fnPackings", recurses := true, apart := false, narrowed := true }
def FnPackingsUptoSaid : Prop := fnPackingsUptoRow.holds Try.pinned (OpenSpec.upto fnPackingsSpec)

end Rows
end Go.Proofs.Ytnbhnkpefhdgjaa
