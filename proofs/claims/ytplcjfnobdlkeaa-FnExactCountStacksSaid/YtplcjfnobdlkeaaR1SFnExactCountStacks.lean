/- What is to be shown of the plain twin of the law FnExactCountStacks. -/
import Derived.Test.YtplcjfnobdlkeaaR1F2
import Derived.Test.YtplcjfnobdlkeaaR1Glob
namespace Go.Proofs.Ytplcjfnobdlkeaa.R
open Go.Proofs.Ytplcjfnobdlkeaa.R1
def PureFnExactCountStacks : Prop := ∀ (x0 : Int), Ok (.int .i64) x0 → ∀ (x1 : Int), Ok (.int .i64) x1 → ∃ k, f3 k x0 x1 = some ((true, ()), ())
end Go.Proofs.Ytplcjfnobdlkeaa.R
