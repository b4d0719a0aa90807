/- The pure statement of the law FnExactSameTree. -/
import Derived.Test.YtnbhnkpefhdgjaaGx4
import Derived.Test.YtnbhnkpefhdgjaaGKinds
namespace Go.Proofs.Ytnbhnkpefhdgjaa.G
open Go.RowKit Go.Proofs.YtnbhnkpefhdgjaaW.PrintWords
def laws_FnExactSameTree.Pure : Prop := ∀ (x0 : S24) (x1 : S24), (ok24 x0) → (ok24 x1) → ∃ k, laws_FnExactSameTree.f k x0.f0 x0.f1 x1.f0 x1.f1 = some true
end Go.Proofs.Ytnbhnkpefhdgjaa.G
