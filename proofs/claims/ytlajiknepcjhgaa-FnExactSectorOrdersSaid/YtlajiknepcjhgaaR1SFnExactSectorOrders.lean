/- What is to be shown of the plain twin of the law FnExactSectorOrders. -/
import Derived.Test.YtlajiknepcjhgaaR1F0
import Derived.Test.YtlajiknepcjhgaaR1Glob
namespace Go.Proofs.Ytlajiknepcjhgaa.R
open Go.Proofs.Ytlajiknepcjhgaa.R1
def PureFnExactSectorOrders : Prop := ∀ (x0 : (List Int)), Ok (.sl (.int .i64)) x0 → ∀ (x1 : (List Int)), Ok (.sl (.int .i64)) x1 → ∃ k, f3 k x0 x1 = some ((true, ()), ())
end Go.Proofs.Ytlajiknepcjhgaa.R
