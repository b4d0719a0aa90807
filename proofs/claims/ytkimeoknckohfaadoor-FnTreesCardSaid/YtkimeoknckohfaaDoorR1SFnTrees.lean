/- What is to be shown of the plain twin of the law FnTrees. -/
import Derived.Test.YtkimeoknckohfaaDoorR1F0
import Derived.Test.YtkimeoknckohfaaDoorR1Glob
namespace Go.Proofs.YtkimeoknckohfaaDoor.R
open Go.Proofs.YtkimeoknckohfaaDoor.R1
def PureFnTrees : Prop := ∀ (x0 : (List Int)), Ok (.sl (.int .u8)) x0 → ∃ k, f3 k x0 = some ((true, ()), ())
end Go.Proofs.YtkimeoknckohfaaDoor.R
