/- The pure statement of the law FnExactReadTree. -/
import Derived.Test.YtddaiabilhjcpaaDoorAx12
import Derived.Test.YtddaiabilhjcpaaDoorAKinds
namespace Go.Proofs.YtddaiabilhjcpaaDoor.A
open Go.RowKit Go.Proofs.YtddaiabilhjcpaaDoorW.PrintWords
def laws_FnExactReadTree.Pure : Prop := ∀ (x0 : ByteArray), (x0.size ≤ maxLen) → ∃ k, laws_FnExactReadTree.f k x0 = some true
end Go.Proofs.YtddaiabilhjcpaaDoor.A
