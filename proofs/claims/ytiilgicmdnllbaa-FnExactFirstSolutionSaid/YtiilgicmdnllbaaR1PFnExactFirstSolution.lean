/- The plain law FnExactFirstSolution. -/
import Derived.Test.YtiilgicmdnllbaaR1SFnExactFirstSolution
import Derived.Test.YtiilgicmdnllbaaR1SvH
namespace Go.Proofs.Ytiilgicmdnllbaa.R
open Go.Proofs.Ytiilgicmdnllbaa.R1
theorem pureFnExactFirstSolution : PureFnExactFirstSolution := fun x0 h0 x1 _ x2 _ => ⟨2097152, first_law x0 h0 x1 x2⟩
end Go.Proofs.Ytiilgicmdnllbaa.R
