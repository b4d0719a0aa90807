/- The pure statement of the law FnExactSmallestSide. -/
import Derived.Test.YtmckbecegiegaaaAx19
import Derived.Test.YtmckbecegiegaaaAKinds
namespace Go.Proofs.Ytmckbecegiegaaa.A
open Go.RowKit Go.Proofs.YtmckbecegiegaaaW.PrintWords
def laws_FnExactSmallestSide.Pure : Prop := ∀ (x0 : S42) (x1 : Int) (x2 : Int), (ok42 x0) → ((Lit.int .i64 x1).wf = true) → ((Lit.int .i64 x2).wf = true) → ∃ k, laws_FnExactSmallestSide.f k x0.f0 x0.f1 x1 x2 = some true
end Go.Proofs.Ytmckbecegiegaaa.A
