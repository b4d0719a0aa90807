/-
  No cell of these rows narrows 'for every input' (looked for: loops, veiled, ifaces, maps, wideKeys, modest, calm, conditions, laid).
  DERIVED. THE GIVEN ROWS OF THIS SEAT. 5 by the template 'for every input the law returns true; each argument reads behind the call as it read before'; 0 by the template 'total and deterministic' (their statements: YtiilgicmdnllbaaTotals.lean).
  GIVEN WITH THE SEED: the statements are not yours to turn. If you find one false, say at which input.
  Laid BY PROGRAM, IN A SANDBOX (cutbox-rows.mjs): the forced cells as the released guide's own fill.sh prints them over the translation fc0162720a299eab… (all of the seat's roots in one cut). By AI agents, Wed Nov 11 2026. No macro, syntax, notation, axiom, sorry.
-/
import Derived.Test.YtiilgicmdnllbaaChecked
import GoSem.Claim
import GoSem.ClaimJoined
import GoSem.ClaimMapViews
import Derived.JoinedTies
import Derived.KernelRfl
namespace Go.Proofs.Ytiilgicmdnllbaa
/- THE CELL 'sum', in the pinned program and in every row, IS THE sha256 OF THE DUMP (.gsa) THAT YtiilgicmdnllbaaProg.lean LOADS. Nothing in Lean hashes anything: it is a label: what it is worth is what the hold of that sum in a sandbox is worth. -/
noncomputable def Try.pinned : Pinned := { name := "ytiilgicmdnllbaa", sum := "fc0162720a299eabff74f15bc2891afbc6fadbe2e60c99b6d0d8672a022b0f0f", checked := Try.checked }
namespace Rows
def none {H : Type} : Left H := { results := [], args := [] }

/-- 'laws.FnSolveAll': WHATEVER THE INPUT: true; the input reads as it did. -/
def fnSolveAllSpec : ChangeSpec := { name := "fnSolveAll", fn := fun _ => fun
  | [d] => { results := [.lit (.bool true)], args := [d] }
  | _ => none }
def fnSolveAllRow : OpenClaim := { program := "ytiilgicmdnllbaa", sum := "fc0162720a299eabff74f15bc2891afbc6fadbe2e60c99b6d0d8672a022b0f0f", func := "loop.example/g00857/laws.FnSolveAll", spec := "fnSolveAll", unfollowed := true, recurses := true, apart := false }
def FnSolveAllSaid : Prop := fnSolveAllRow.holds Try.pinned (OpenSpec.ofChange fnSolveAllSpec)

/-- ITS FALSE NEIGHBOUR: 'it returns false'. Refute it at one input. -/
def fnSolveAllWrong : ChangeSpec := { name := "fnSolveAll", fn := fun _ => fun
  | [d] => { results := [.lit (.bool false)], args := [d] }
  | _ => none }
def FnSolveAllWrongFalsely : Prop := fnSolveAllRow.holds Try.pinned (OpenSpec.ofChange fnSolveAllWrong)

/-- 'laws.FnExactFirstSolution': WHATEVER THE INPUT: true; the input reads as it did. -/
def fnExactFirstSolutionSpec : ChangeSpec := { name := "fnExactFirstSolution", fn := fun _ => fun
  | [d1, d2, d3] => { results := [.lit (.bool true)], args := [d1, d2, d3] }
  | _ => none }
def fnExactFirstSolutionRow : OpenClaim := { program := "ytiilgicmdnllbaa", sum := "fc0162720a299eabff74f15bc2891afbc6fadbe2e60c99b6d0d8672a022b0f0f", func := "loop.example/g00857/laws.FnExactFirstSolution", spec := "fnExactFirstSolution", unfollowed := true, recurses := true, apart := false }
def FnExactFirstSolutionSaid : Prop := fnExactFirstSolutionRow.holds Try.pinned (OpenSpec.ofChange fnExactFirstSolutionSpec)

/-- ITS FALSE NEIGHBOUR: 'it returns false'. Refute it at one input. -/
def fnExactFirstSolutionWrong : ChangeSpec := { name := "fnExactFirstSolution", fn := fun _ => fun
  | [d1, d2, d3] => { results := [.lit (.bool false)], args := [d1, d2, d3] }
  | _ => none }
def FnExactFirstSolutionWrongFalsely : Prop := fnExactFirstSolutionRow.holds Try.pinned (OpenSpec.ofChange fnExactFirstSolutionWrong)

/-- 'laws.FnExactSolveRules': WHATEVER THE INPUT: true; the input reads as it did. -/
def fnExactSolveRulesSpec : ChangeSpec := { name := "fnExactSolveRules", fn := fun _ => fun
  | [d1, d2, d3, d4] => { results := [.lit (.bool true)], args := [d1, d2, d3, d4] }
  | _ => none }
def fnExactSolveRulesRow : OpenClaim := { program := "ytiilgicmdnllbaa", sum := "fc0162720a299eabff74f15bc2891afbc6fadbe2e60c99b6d0d8672a022b0f0f", func := "loop.example/g00857/laws.FnExactSolveRules", spec := "fnExactSolveRules", unfollowed := true, recurses := true, apart := false }
def FnExactSolveRulesSaid : Prop := fnExactSolveRulesRow.holds Try.pinned (OpenSpec.ofChange fnExactSolveRulesSpec)

/-- ITS FALSE NEIGHBOUR: 'it returns false'. Refute it at one input. -/
def fnExactSolveRulesWrong : ChangeSpec := { name := "fnExactSolveRules", fn := fun _ => fun
  | [d1, d2, d3, d4] => { results := [.lit (.bool false)], args := [d1, d2, d3, d4] }
  | _ => none }
def FnExactSolveRulesWrongFalsely : Prop := fnExactSolveRulesRow.holds Try.pinned (OpenSpec.ofChange fnExactSolveRulesWrong)

/-- 'laws.FnExactRefute': WHATEVER THE INPUT: true; the input reads as it did. -/
def fnExactRefuteSpec : ChangeSpec := { name := "fnExactRefute", fn := fun _ => fun
  | [d1, d2, d3] => { results := [.lit (.bool true)], args := [d1, d2, d3] }
  | _ => none }
def fnExactRefuteRow : OpenClaim := { program := "ytiilgicmdnllbaa", sum := "fc0162720a299eabff74f15bc2891afbc6fadbe2e60c99b6d0d8672a022b0f0f", func := "loop.example/g00857/laws.FnExactRefute", spec := "fnExactRefute", unfollowed := true, recurses := true, apart := false }
def FnExactRefuteSaid : Prop := fnExactRefuteRow.holds Try.pinned (OpenSpec.ofChange fnExactRefuteSpec)

/-- ITS FALSE NEIGHBOUR: 'it returns false'. Refute it at one input. -/
def fnExactRefuteWrong : ChangeSpec := { name := "fnExactRefute", fn := fun _ => fun
  | [d1, d2, d3] => { results := [.lit (.bool false)], args := [d1, d2, d3] }
  | _ => none }
def FnExactRefuteWrongFalsely : Prop := fnExactRefuteRow.holds Try.pinned (OpenSpec.ofChange fnExactRefuteWrong)

/-- 'laws.FnRefute': WHATEVER THE INPUT: true; the input reads as it did. -/
def fnRefuteSpec : ChangeSpec := { name := "fnRefute", fn := fun _ => fun
  | [d1, d2] => { results := [.lit (.bool true)], args := [d1, d2] }
  | _ => none }
def fnRefuteRow : OpenClaim := { program := "ytiilgicmdnllbaa", sum := "fc0162720a299eabff74f15bc2891afbc6fadbe2e60c99b6d0d8672a022b0f0f", func := "loop.example/g00857/laws.FnRefute", spec := "fnRefute", unfollowed := true, recurses := true, apart := false }
def FnRefuteSaid : Prop := fnRefuteRow.holds Try.pinned (OpenSpec.ofChange fnRefuteSpec)

/-- ITS FALSE NEIGHBOUR: 'it returns false'. Refute it at one input. -/
def fnRefuteWrong : ChangeSpec := { name := "fnRefute", fn := fun _ => fun
  | [d1, d2] => { results := [.lit (.bool false)], args := [d1, d2] }
  | _ => none }
def FnRefuteWrongFalsely : Prop := fnRefuteRow.holds Try.pinned (OpenSpec.ofChange fnRefuteWrong)

/- THE SECOND FORM. 'bulk': how many values and letters a reading holds, each counted each time it is reached (what is shared counts as often as it is met; a slice's spare places count too). A statement '..UptoSaid' is the law's where the arguments, and the package variables that the reading takes, are together of bulk at most 1048576: NARROWER than '..Said'. Prove '..Said' where nothing that the law and all that it calls make is longer than what came in: it says more and counts as full. Else prove '..UptoSaid'. A law counts once. -/
mutual
def uptoBulk {H : Type} : DataW H → Nat
  | .lit (.string bytes) => bytes.length + 1
  | .lit _ => 1
  | .nil => 1
  | .ptr d => uptoBulk d + 1
  | .slice elems spare => uptoBulkAll elems + uptoBulkAll spare + 1
  | .agg parts => uptoBulkAll parts + 1
  | .iface _ d => uptoBulk d + 1
  | .map entries => uptoBulkEntries entries + 1
  | .held _ => 1
def uptoBulkAll {H : Type} : List (DataW H) → Nat
  | [] => 0
  | d :: r => uptoBulk d + uptoBulkAll r
def uptoBulkEntries {H : Type} : List (Lit × DataW H) → Nat
  | [] => 0
  | x :: r => uptoBulkEntry x + uptoBulkEntries r
def uptoBulkEntry {H : Type} : Lit × DataW H → Nat
  | (.string bytes, d) => bytes.length + uptoBulk d + 1
  | (_, d) => uptoBulk d + 1
 end
def uptoSmall : (H : Type) → List (DataW H) → Bool := fun _ ds => decide (uptoBulkAll ds ≤ 1048576)
def OpenSpec.upto (s : _root_.Go.ChangeSpec) : _root_.Go.OpenSpec := { _root_.Go.OpenSpec.ofChange s with cond := some uptoSmall }

/-- 'laws.FnSolveAll', WHERE WHAT IT READS IS OF BULK AT MOST 1048576: true; the input reads as it did. -/
def fnSolveAllUptoRow : OpenClaim := { program := "ytiilgicmdnllbaa", sum := "fc0162720a299eabff74f15bc2891afbc6fadbe2e60c99b6d0d8672a022b0f0f", func := "loop.example/g00857/laws.FnSolveAll", spec := "fnSolveAll", unfollowed := true, recurses := true, apart := false, narrowed := true }
def FnSolveAllUptoSaid : Prop := fnSolveAllUptoRow.holds Try.pinned (OpenSpec.upto fnSolveAllSpec)

/-- 'laws.FnExactFirstSolution', WHERE WHAT IT READS IS OF BULK AT MOST 1048576: true; the input reads as it did. -/
def fnExactFirstSolutionUptoRow : OpenClaim := { program := "ytiilgicmdnllbaa", sum := "fc0162720a299eabff74f15bc2891afbc6fadbe2e60c99b6d0d8672a022b0f0f", func := "loop.example/g00857/laws.FnExactFirstSolution", spec := "fnExactFirstSolution", unfollowed := true, recurses := true, apart := false, narrowed := true }
def FnExactFirstSolutionUptoSaid : Prop := fnExactFirstSolutionUptoRow.holds Try.pinned (OpenSpec.upto fnExactFirstSolutionSpec)

/-- 'laws.FnExactSolveRules', WHERE WHAT IT READS IS OF BULK AT MOST 1048576: true; the input reads as it did. -/
def fnExactSolveRulesUptoRow : OpenClaim := { program := "ytiilgicmdnllbaa", sum := "fc0162720a299eabff74f15bc2891afbc6fadbe2e60c99b6d0d8672a022b0f0f", func := "loop.example/g00857/laws.FnExactSolveRules", spec := "fnExactSolveRules", unfollowed := true, recurses := true, apart := false, narrowed := true }
def FnExactSolveRulesUptoSaid : Prop := fnExactSolveRulesUptoRow.holds Try.pinned (OpenSpec.upto fnExactSolveRulesSpec)

/-- 'laws.FnExactRefute', WHERE WHAT IT READS IS OF BULK AT MOST 1048576: true; the input reads as it did. -/
def fnExactRefuteUptoRow : OpenClaim := { program := "ytiilgicmdnllbaa", sum := "fc0162720a299eabff74f15bc2891afbc6fadbe2e60c99b6d0d8672a022b0f0f", func := "loop.example/g00857/laws.FnExactRefute", spec := "fnExactRefute", unfollowed := true, recurses := true, apart := false, narrowed := true }
def FnExactRefuteUptoSaid : Prop := fnExactRefuteUptoRow.holds Try.pinned (OpenSpec.upto fnExactRefuteSpec)

/-- 'laws.FnRefute', WHERE WHAT IT READS IS OF BULK AT MOST 1048576: true; the input reads as it did. -/
def fnRefuteUptoRow : OpenClaim := { program := "ytiilgicmdnllbaa", sum := "fc0162720a299eabff74f15bc2891afbc6fadbe2e60c99b6d0d8672a022b0f0f", func := "loop.example/g00857/laws.FnRefute", spec := "fnRefute", unfollowed := true, recurses := true, apart := false, narrowed := true }
def FnRefuteUptoSaid : Prop := fnRefuteUptoRow.holds Try.pinned (OpenSpec.upto fnRefuteSpec)

end Rows
end Go.Proofs.Ytiilgicmdnllbaa
