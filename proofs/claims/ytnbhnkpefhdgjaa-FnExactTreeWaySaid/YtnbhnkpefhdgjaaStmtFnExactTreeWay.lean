/- The pure statement of the law FnExactTreeWay. -/
import Derived.Test.YtnbhnkpefhdgjaaHx13
import Derived.Test.YtnbhnkpefhdgjaaHKinds
namespace Go.Proofs.Ytnbhnkpefhdgjaa.H
open Go.RowKit Go.Proofs.YtnbhnkpefhdgjaaW.PrintWords
def laws_FnExactTreeWay.Pure : Prop := ∀ (x0 : S24) (x1 : Int) (x2 : Int), (ok24 x0) → ((Lit.int .i64 x1).wf = true) → ((Lit.int .i64 x2).wf = true) → ∃ k, laws_FnExactTreeWay.f k x0.f0 x0.f1 x1 x2 = some true
end Go.Proofs.Ytnbhnkpefhdgjaa.H
