/- The pure statement of the law FnExactValidPacking. -/
import Derived.Test.YtnbhnkpefhdgjaaHx21
import Derived.Test.YtnbhnkpefhdgjaaHKinds
namespace Go.Proofs.Ytnbhnkpefhdgjaa.H
open Go.RowKit Go.Proofs.YtnbhnkpefhdgjaaW.PrintWords
def laws_FnExactValidPacking.Pure : Prop := ∀ (x0 : S24) (x1 : Int) (x2 : List (S91)), (ok24 x0) → ((Lit.int .i64 x1).wf = true) → (x2.length ≤ maxLen ∧ ∀ yx2 ∈ x2, ok91 yx2) → ∃ k, laws_FnExactValidPacking.f k x0.f0 x0.f1 x1 x2 = some true
end Go.Proofs.Ytnbhnkpefhdgjaa.H
