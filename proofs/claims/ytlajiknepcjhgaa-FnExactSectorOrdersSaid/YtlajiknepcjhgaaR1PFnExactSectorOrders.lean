/- The plain law FnExactSectorOrders. -/
import Derived.Test.YtlajiknepcjhgaaR1SFnExactSectorOrders
import Derived.Test.YtlajiknepcjhgaaR1SeI
namespace Go.Proofs.Ytlajiknepcjhgaa.R
open Go.Proofs.Ytlajiknepcjhgaa.R1
theorem pureFnExactSectorOrders : PureFnExactSectorOrders := fun x0 _ x1 _ => ⟨4194304, sector_law x0 x1⟩
end Go.Proofs.Ytlajiknepcjhgaa.R
