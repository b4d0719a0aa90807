/- The plain law FnExactStacksOf. -/
import Derived.Test.YtplcjfnobdlkeaaR1SFnExactStacksOf
import Derived.Test.YtplcjfnobdlkeaaR1StG
namespace Go.Proofs.Ytplcjfnobdlkeaa.R
open Go.Proofs.Ytplcjfnobdlkeaa.R1
theorem pureFnExactStacksOf : PureFnExactStacksOf := fun x0 _ x1 _ x2 _ => ⟨300, stacks_law x0 x1 x2⟩
end Go.Proofs.Ytplcjfnobdlkeaa.R
