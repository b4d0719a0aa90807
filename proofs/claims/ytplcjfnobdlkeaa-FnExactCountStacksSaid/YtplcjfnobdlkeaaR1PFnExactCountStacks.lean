/- The plain law FnExactCountStacks. -/
import Derived.Test.YtplcjfnobdlkeaaR1SFnExactCountStacks
import Derived.Test.YtplcjfnobdlkeaaR1StG
namespace Go.Proofs.Ytplcjfnobdlkeaa.R
open Go.Proofs.Ytplcjfnobdlkeaa.R1
theorem pureFnExactCountStacks : PureFnExactCountStacks := fun x0 _ x1 _ => ⟨300, count_law x0 x1⟩
end Go.Proofs.Ytplcjfnobdlkeaa.R
