/- The pure statement of the law FnExactLeafDistances. -/
import Derived.Test.YtnbhnkpefhdgjaaLx10
import Derived.Test.YtnbhnkpefhdgjaaLKinds
namespace Go.Proofs.Ytnbhnkpefhdgjaa.L
open Go.RowKit Go.Proofs.YtnbhnkpefhdgjaaW.PrintWords
def laws_FnExactLeafDistances.Pure : Prop := ∀ (x0 : S24), (ok24 x0) → ∃ k, laws_FnExactLeafDistances.f k x0.f0 x0.f1 = some true
end Go.Proofs.Ytnbhnkpefhdgjaa.L
