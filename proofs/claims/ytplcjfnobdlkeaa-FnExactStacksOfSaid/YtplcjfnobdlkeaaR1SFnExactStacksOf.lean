/- What is to be shown of the plain twin of the law FnExactStacksOf. -/
import Derived.Test.YtplcjfnobdlkeaaR1F2
import Derived.Test.YtplcjfnobdlkeaaR1Glob
namespace Go.Proofs.Ytplcjfnobdlkeaa.R
open Go.Proofs.Ytplcjfnobdlkeaa.R1
def PureFnExactStacksOf : Prop := ∀ (x0 : Int), Ok (.int .i64) x0 → ∀ (x1 : Int), Ok (.int .i64) x1 → ∀ (x2 : Int), Ok (.int .i64) x2 → ∃ k, f4 k x0 x1 x2 = some ((true, ()), ())
end Go.Proofs.Ytplcjfnobdlkeaa.R
