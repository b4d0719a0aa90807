/- The plain law FnTrees. -/
import Derived.Test.YtkimeoknckohfaaDoorR1SFnTrees
import Derived.Test.YtkimeoknckohfaaDoorR1TrG
namespace Go.Proofs.YtkimeoknckohfaaDoor.R
open Go.Proofs.YtkimeoknckohfaaDoor.R1
theorem pureFnTrees : PureFnTrees := fun x0 h => ⟨5000, trees_law x0 (bytes_of h)⟩
end Go.Proofs.YtkimeoknckohfaaDoor.R
