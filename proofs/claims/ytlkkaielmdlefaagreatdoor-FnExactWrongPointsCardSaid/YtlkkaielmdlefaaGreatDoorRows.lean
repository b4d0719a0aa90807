/-
  NARROWER THAN 'FOR EVERY INPUT', by the rows' own cells (each row's printed sentence says how): FnExactLocallyFlat: laid · FnExactReportPoint: laid · FnExactWrongPoints: laid · FnExactReportPoints: laid.
  DERIVED. THE GIVEN ROWS OF THIS SEAT. 4 by the template 'for every input the law returns true; each argument reads behind the call as it read before'; 0 by the template 'total and deterministic' (their statements: YtlkkaielmdlefaaGreatDoorTotals.lean).
  GIVEN WITH THE SEED: the statements are not yours to turn. If you find one false, say at which input.
  Laid BY PROGRAM, IN A SANDBOX (cutbox-rows.mjs): the forced cells as the released guide's own fill.sh prints them over the translation 2290ca20900a1fa4… (all of the seat's roots in one cut). By AI agents, Wed Nov 11 2026. No macro, syntax, notation, axiom, sorry.
-/
import Derived.Test.YtlkkaielmdlefaaGreatDoorChecked
import GoSem.Claim
import GoSem.ClaimJoined
import GoSem.ClaimMapViews
import Derived.JoinedTies
import Derived.KernelRfl
namespace Go.Proofs.YtlkkaielmdlefaaGreatDoor
/- THE CELL 'sum', in the pinned program and in every row, IS THE sha256 OF THE DUMP (.gsa) THAT YtlkkaielmdlefaaGreatDoorProg.lean LOADS. Nothing in Lean hashes anything: it is a label: what it is worth is what the hold of that sum in a sandbox is worth. -/
noncomputable def Tryz.pinned : Pinned := { name := "ytlkkaielmdlefaagreatdoor", sum := "2290ca20900a1fa4bfe62264ddd0306347e93c95f2d6c6d21370ee488a5c32fd", checked := Tryz.checked }
namespace Rows
def none {H : Type} : Left H := { results := [], args := [] }

/- WHAT THE LISTED PACKAGE-LEVEL VARIABLES READ AS WHEN THE CALL BEGINS. Each datum BY PROGRAM (the guide's laid-datum.mjs) off the statement by which the dump's own 'gosem.cut.vars' lays the variable. In a bare row this is a premise. The card (YtlkkaielmdlefaaGreatDoorCards.lean) ties it to the program's text. -/
def laid_loop_example_g00857_impl_vectors {H : Type} : DataW H := .agg [.agg [.agg [.lit (.int .i64 1), .lit (.int .i64 0), .lit (.int .i64 0)], .agg [.lit (.int .i64 0), .lit (.int .i64 0), .lit (.int .i64 0)]], .agg [.agg [.lit (.int .i64 1), .lit (.int .i64 0), .lit (.int .i64 0)], .agg [.lit (.int .i64 (-1)), .lit (.int .i64 1), .lit (.int .i64 0)]], .agg [.agg [.lit (.int .i64 1), .lit (.int .i64 0), .lit (.int .i64 0)], .agg [.lit (.int .i64 1), .lit (.int .i64 0), .lit (.int .i64 0)]], .agg [.agg [.lit (.int .i64 (-1)), .lit (.int .i64 1), .lit (.int .i64 0)], .agg [.lit (.int .i64 1), .lit (.int .i64 0), .lit (.int .i64 0)]], .agg [.agg [.lit (.int .i64 0), .lit (.int .i64 0), .lit (.int .i64 0)], .agg [.lit (.int .i64 1), .lit (.int .i64 0), .lit (.int .i64 0)]], .agg [.agg [.lit (.int .i64 1), .lit (.int .i64 (-1)), .lit (.int .i64 0)], .agg [.lit (.int .i64 1), .lit (.int .i64 0), .lit (.int .i64 0)]], .agg [.agg [.lit (.int .i64 (-1)), .lit (.int .i64 0), .lit (.int .i64 0)], .agg [.lit (.int .i64 1), .lit (.int .i64 0), .lit (.int .i64 0)]], .agg [.agg [.lit (.int .i64 (-1)), .lit (.int .i64 0), .lit (.int .i64 0)], .agg [.lit (.int .i64 (-1)), .lit (.int .i64 1), .lit (.int .i64 0)]]]

/-- 'laws.FnExactLocallyFlat': WHATEVER THE INPUT: true; the input reads as it did. -/
def fnExactLocallyFlatSpec : ChangeSpec := { name := "fnExactLocallyFlat", vars := ["loop.example/g00857/impl.vectors"], fn := fun _ => fun
  | [d, g1] => { results := [.lit (.bool true)], args := [d], vars := [g1] }
  | _ => none }
def fnExactLocallyFlatRow : OpenClaim := { program := "ytlkkaielmdlefaagreatdoor", sum := "2290ca20900a1fa4bfe62264ddd0306347e93c95f2d6c6d21370ee488a5c32fd", func := "loop.example/g00857/laws.FnExactLocallyFlat", spec := "fnExactLocallyFlat", unfollowed := true, recurses := true, named := ["loop.example/g00857/impl.vectors"], apart := false, laid := [("loop.example/g00857/impl.vectors", laid_loop_example_g00857_impl_vectors)] }
def FnExactLocallyFlatSaid : Prop := fnExactLocallyFlatRow.holds Tryz.pinned (OpenSpec.ofChange fnExactLocallyFlatSpec)

/-- ITS FALSE NEIGHBOUR: 'it returns false'. Refute it at one input. -/
def fnExactLocallyFlatWrong : ChangeSpec := { name := "fnExactLocallyFlat", vars := ["loop.example/g00857/impl.vectors"], fn := fun _ => fun
  | [d, g1] => { results := [.lit (.bool false)], args := [d], vars := [g1] }
  | _ => none }
def FnExactLocallyFlatWrongFalsely : Prop := fnExactLocallyFlatRow.holds Tryz.pinned (OpenSpec.ofChange fnExactLocallyFlatWrong)

/-- 'laws.FnExactReportPoint': WHATEVER THE INPUT: true; the input reads as it did. -/
def fnExactReportPointSpec : ChangeSpec := { name := "fnExactReportPoint", vars := ["loop.example/g00857/impl.vectors"], fn := fun _ => fun
  | [d1, d2, g1] => { results := [.lit (.bool true)], args := [d1, d2], vars := [g1] }
  | _ => none }
def fnExactReportPointRow : OpenClaim := { program := "ytlkkaielmdlefaagreatdoor", sum := "2290ca20900a1fa4bfe62264ddd0306347e93c95f2d6c6d21370ee488a5c32fd", func := "loop.example/g00857/laws.FnExactReportPoint", spec := "fnExactReportPoint", unfollowed := true, recurses := true, named := ["loop.example/g00857/impl.vectors"], apart := false, laid := [("loop.example/g00857/impl.vectors", laid_loop_example_g00857_impl_vectors)] }
def FnExactReportPointSaid : Prop := fnExactReportPointRow.holds Tryz.pinned (OpenSpec.ofChange fnExactReportPointSpec)

/-- ITS FALSE NEIGHBOUR: 'it returns false'. Refute it at one input. -/
def fnExactReportPointWrong : ChangeSpec := { name := "fnExactReportPoint", vars := ["loop.example/g00857/impl.vectors"], fn := fun _ => fun
  | [d1, d2, g1] => { results := [.lit (.bool false)], args := [d1, d2], vars := [g1] }
  | _ => none }
def FnExactReportPointWrongFalsely : Prop := fnExactReportPointRow.holds Tryz.pinned (OpenSpec.ofChange fnExactReportPointWrong)

/-- 'laws.FnExactWrongPoints': WHATEVER THE INPUT: true; the input reads as it did. -/
def fnExactWrongPointsSpec : ChangeSpec := { name := "fnExactWrongPoints", vars := ["loop.example/g00857/impl.vectors"], fn := fun _ => fun
  | [d, g1] => { results := [.lit (.bool true)], args := [d], vars := [g1] }
  | _ => none }
def fnExactWrongPointsRow : OpenClaim := { program := "ytlkkaielmdlefaagreatdoor", sum := "2290ca20900a1fa4bfe62264ddd0306347e93c95f2d6c6d21370ee488a5c32fd", func := "loop.example/g00857/laws.FnExactWrongPoints", spec := "fnExactWrongPoints", unfollowed := true, recurses := true, named := ["loop.example/g00857/impl.vectors"], apart := false, laid := [("loop.example/g00857/impl.vectors", laid_loop_example_g00857_impl_vectors)] }
def FnExactWrongPointsSaid : Prop := fnExactWrongPointsRow.holds Tryz.pinned (OpenSpec.ofChange fnExactWrongPointsSpec)

/-- ITS FALSE NEIGHBOUR: 'it returns false'. Refute it at one input. -/
def fnExactWrongPointsWrong : ChangeSpec := { name := "fnExactWrongPoints", vars := ["loop.example/g00857/impl.vectors"], fn := fun _ => fun
  | [d, g1] => { results := [.lit (.bool false)], args := [d], vars := [g1] }
  | _ => none }
def FnExactWrongPointsWrongFalsely : Prop := fnExactWrongPointsRow.holds Tryz.pinned (OpenSpec.ofChange fnExactWrongPointsWrong)

/-- 'laws.FnExactReportPoints': WHATEVER THE INPUT: true; the input reads as it did. -/
def fnExactReportPointsSpec : ChangeSpec := { name := "fnExactReportPoints", vars := ["loop.example/g00857/impl.vectors"], fn := fun _ => fun
  | [d, g1] => { results := [.lit (.bool true)], args := [d], vars := [g1] }
  | _ => none }
def fnExactReportPointsRow : OpenClaim := { program := "ytlkkaielmdlefaagreatdoor", sum := "2290ca20900a1fa4bfe62264ddd0306347e93c95f2d6c6d21370ee488a5c32fd", func := "loop.example/g00857/laws.FnExactReportPoints", spec := "fnExactReportPoints", unfollowed := true, recurses := true, named := ["loop.example/g00857/impl.vectors"], apart := false, laid := [("loop.example/g00857/impl.vectors", laid_loop_example_g00857_impl_vectors)] }
def FnExactReportPointsSaid : Prop := fnExactReportPointsRow.holds Tryz.pinned (OpenSpec.ofChange fnExactReportPointsSpec)

/-- ITS FALSE NEIGHBOUR: 'it returns false'. Refute it at one input. -/
def fnExactReportPointsWrong : ChangeSpec := { name := "fnExactReportPoints", vars := ["loop.example/g00857/impl.vectors"], fn := fun _ => fun
  | [d, g1] => { results := [.lit (.bool false)], args := [d], vars := [g1] }
  | _ => none }
def FnExactReportPointsWrongFalsely : Prop := fnExactReportPointsRow.holds Tryz.pinned (OpenSpec.ofChange fnExactReportPointsWrong)

/- THE SECOND FORM. 'bulk': how many values and letters a reading holds, each counted each time it is reached (what is shared counts as often as it is met; a slice's spare places count too). A statement '..UptoSaid' is the law's where the arguments, and the package variables that the reading takes, are together of bulk at most 1048576: NARROWER than '..Said'. Prove '..Said' where nothing that the law and all that it calls make is longer than what came in: it says more and counts as full. Else prove '..UptoSaid'. A law counts once. -/
mutual
def uptoBulk {H : Type} : DataW H → Nat
  | .lit (.string bytes) => bytes.length + 1
  | .lit _ => 1
  | .nil => 1
  | .ptr d => uptoBulk d + 1
  | .slice elems spare => uptoBulkAll elems + uptoBulkAll spare + 1
  | .agg parts => uptoBulkAll parts + 1
  | .iface _ d => uptoBulk d + 1
  | .map entries => uptoBulkEntries entries + 1
  | .held _ => 1
def uptoBulkAll {H : Type} : List (DataW H) → Nat
  | [] => 0
  | d :: r => uptoBulk d + uptoBulkAll r
def uptoBulkEntries {H : Type} : List (Lit × DataW H) → Nat
  | [] => 0
  | x :: r => uptoBulkEntry x + uptoBulkEntries r
def uptoBulkEntry {H : Type} : Lit × DataW H → Nat
  | (.string bytes, d) => bytes.length + uptoBulk d + 1
  | (_, d) => uptoBulk d + 1
 end
def uptoSmall : (H : Type) → List (DataW H) → Bool := fun _ ds => decide (uptoBulkAll ds ≤ 1048576)
def OpenSpec.upto (s : _root_.Go.ChangeSpec) : _root_.Go.OpenSpec := { _root_.Go.OpenSpec.ofChange s with cond := some uptoSmall }

/-- 'laws.FnExactLocallyFlat', WHERE WHAT IT READS IS OF BULK AT MOST 1048576: true; the input reads as it did. -/
def fnExactLocallyFlatUptoRow : OpenClaim := { program := "ytlkkaielmdlefaagreatdoor", sum := "2290ca20900a1fa4bfe62264ddd0306347e93c95f2d6c6d21370ee488a5c32fd", func := "loop.example/g00857/laws.FnExactLocallyFlat", spec := "fnExactLocallyFlat", unfollowed := true, recurses := true, named := ["loop.example/g00857/impl.vectors"], apart := false, laid := [("loop.example/g00857/impl.vectors", laid_loop_example_g00857_impl_vectors)], narrowed := true }
def FnExactLocallyFlatUptoSaid : Prop := fnExactLocallyFlatUptoRow.holds Tryz.pinned (OpenSpec.upto fnExactLocallyFlatSpec)

/-- 'laws.FnExactReportPoint', WHERE WHAT IT READS IS OF BULK AT MOST 1048576: true; the input reads as it did. -/
def fnExactReportPointUptoRow : OpenClaim := { program := "ytlkkaielmdlefaagreatdoor", sum := "2290ca20900a1fa4bfe62264ddd0306347e93c95f2d6c6d21370ee488a5c32fd", func := "loop.example/g00857/laws.FnExactReportPoint", spec := "fnExactReportPoint", unfollowed := true, recurses := true, named := ["loop.example/g00857/impl.vectors"], apart := false, laid := [("loop.example/g00857/impl.vectors", laid_loop_example_g00857_impl_vectors)], narrowed := true }
def FnExactReportPointUptoSaid : Prop := fnExactReportPointUptoRow.holds Tryz.pinned (OpenSpec.upto fnExactReportPointSpec)

/-- 'laws.FnExactWrongPoints', WHERE WHAT IT READS IS OF BULK AT MOST 1048576: true; the input reads as it did. -/
def fnExactWrongPointsUptoRow : OpenClaim := { program := "ytlkkaielmdlefaagreatdoor", sum := "2290ca20900a1fa4bfe62264ddd0306347e93c95f2d6c6d21370ee488a5c32fd", func := "loop.example/g00857/laws.FnExactWrongPoints", spec := "fnExactWrongPoints", unfollowed := true, recurses := true, named := ["loop.example/g00857/impl.vectors"], apart := false, laid := [("loop.example/g00857/impl.vectors", laid_loop_example_g00857_impl_vectors)], narrowed := true }
def FnExactWrongPointsUptoSaid : Prop := fnExactWrongPointsUptoRow.holds Tryz.pinned (OpenSpec.upto fnExactWrongPointsSpec)

/-- 'laws.FnExactReportPoints', WHERE WHAT IT READS IS OF BULK AT MOST 1048576: true; the input reads as it did. -/
def fnExactReportPointsUptoRow : OpenClaim := { program := "ytlkkaielmdlefaagreatdoor", sum := "2290ca20900a1fa4bfe62264ddd0306347e93c95f2d6c6d21370ee488a5c32fd", func := "loop.example/g00857/laws.FnExactReportPoints", spec := "fnExactReportPoints", unfollowed := true, recurses := true, named := ["loop.example/g00857/impl.vectors"], apart := false, laid := [("loop.example/g00857/impl.vectors", laid_loop_example_g00857_impl_vectors)], narrowed := true }
def FnExactReportPointsUptoSaid : Prop := fnExactReportPointsUptoRow.holds Tryz.pinned (OpenSpec.upto fnExactReportPointsSpec)

end Rows
end Go.Proofs.YtlkkaielmdlefaaGreatDoor
