/- The pure statement of the law FnPackings. -/
import Derived.Test.YtmckbecegiegaaaAx23
import Derived.Test.YtmckbecegiegaaaAKinds
namespace Go.Proofs.Ytmckbecegiegaaa.A
open Go.RowKit Go.Proofs.YtmckbecegiegaaaW.PrintWords
def laws_FnPackings.Pure : Prop := ∀ (x0 : List Int) (x1 : List Int), (x0.length ≤ maxLen ∧ ∀ yx0 ∈ x0, (Lit.int .u8 yx0).wf = true) → (x1.length ≤ maxLen ∧ ∀ yx1 ∈ x1, (Lit.int .u8 yx1).wf = true) → ∃ k, laws_FnPackings.f k x0 x1 = some true
end Go.Proofs.Ytmckbecegiegaaa.A
