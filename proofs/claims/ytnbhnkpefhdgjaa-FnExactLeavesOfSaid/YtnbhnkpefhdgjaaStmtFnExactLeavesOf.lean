/- The pure statement of the law FnExactLeavesOf. -/
import Derived.Test.YtnbhnkpefhdgjaaHx17
import Derived.Test.YtnbhnkpefhdgjaaHKinds
namespace Go.Proofs.Ytnbhnkpefhdgjaa.H
open Go.RowKit Go.Proofs.YtnbhnkpefhdgjaaW.PrintWords
def laws_FnExactLeavesOf.Pure : Prop := ∀ (x0 : S24), (ok24 x0) → ∃ k, laws_FnExactLeavesOf.f k x0.f0 x0.f1 = some true
end Go.Proofs.Ytnbhnkpefhdgjaa.H
