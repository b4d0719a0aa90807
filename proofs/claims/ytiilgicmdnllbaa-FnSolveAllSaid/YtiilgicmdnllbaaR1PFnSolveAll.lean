/- The plain law FnSolveAll. -/
import Derived.Test.YtiilgicmdnllbaaR1SFnSolveAll
import Derived.Test.YtiilgicmdnllbaaR1SvN
namespace Go.Proofs.Ytiilgicmdnllbaa.R
open Go.Proofs.Ytiilgicmdnllbaa.R1
theorem pureFnSolveAll : PureFnSolveAll := fun x0 h0 => ⟨KK, solveAll_law x0 h0⟩
end Go.Proofs.Ytiilgicmdnllbaa.R
