/- The pure statement of the law FnExactValidTree. -/
import Derived.Test.YtnbhnkpefhdgjaaHx9
import Derived.Test.YtnbhnkpefhdgjaaHKinds
namespace Go.Proofs.Ytnbhnkpefhdgjaa.H
open Go.RowKit Go.Proofs.YtnbhnkpefhdgjaaW.PrintWords
def laws_FnExactValidTree.Pure : Prop := ∀ (x0 : S24), (ok24 x0) → ∃ k, laws_FnExactValidTree.f k x0.f0 x0.f1 = some true
end Go.Proofs.Ytnbhnkpefhdgjaa.H
