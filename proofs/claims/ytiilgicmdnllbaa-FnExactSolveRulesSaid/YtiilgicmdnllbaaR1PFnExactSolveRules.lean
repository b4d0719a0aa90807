/- The plain law FnExactSolveRules. -/
import Derived.Test.YtiilgicmdnllbaaR1SFnExactSolveRules
import Derived.Test.YtiilgicmdnllbaaR1SvH
namespace Go.Proofs.Ytiilgicmdnllbaa.R
open Go.Proofs.Ytiilgicmdnllbaa.R1
theorem pureFnExactSolveRules : PureFnExactSolveRules := fun x0 h0 x1 _ x2 _ x3 _ => ⟨2097152, solve_law x0 h0 x1 x2 x3⟩
end Go.Proofs.Ytiilgicmdnllbaa.R
