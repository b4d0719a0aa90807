/- The pure statement of the law FnExactTreeText. -/
import Derived.Test.YtljcdkllpojdoaaDoorAx8
import Derived.Test.YtljcdkllpojdoaaDoorAKinds
namespace Go.Proofs.YtljcdkllpojdoaaDoor.A
open Go.RowKit Go.Proofs.YtljcdkllpojdoaaDoorW.PrintWords
def laws_FnExactTreeText.Pure : Prop := ∀ (x0 : S24), (ok24 x0) → ∃ k, laws_FnExactTreeText.f k x0.f0 x0.f1 = some true
end Go.Proofs.YtljcdkllpojdoaaDoor.A
