/- The pure statement of the law FnExactActivePairs. -/
import Derived.Test.YtnbhnkpefhdgjaaIx15
import Derived.Test.YtnbhnkpefhdgjaaIKinds
namespace Go.Proofs.Ytnbhnkpefhdgjaa.I
open Go.RowKit Go.Proofs.YtnbhnkpefhdgjaaW.PrintWords
def laws_FnExactActivePairs.Pure : Prop := ∀ (x0 : S24) (x1 : Int) (x2 : List (S91)), (ok24 x0) → ((Lit.int .i64 x1).wf = true) → (x2.length ≤ maxLen ∧ ∀ yx2 ∈ x2, ok91 yx2) → ∃ k, laws_FnExactActivePairs.f k x0.f0 x0.f1 x1 x2 = some true
end Go.Proofs.Ytnbhnkpefhdgjaa.I
