/- What is to be shown of the plain twin of the law FnSolveAll. -/
import Derived.Test.YtiilgicmdnllbaaR1F1
import Derived.Test.YtiilgicmdnllbaaR1Glob
namespace Go.Proofs.Ytiilgicmdnllbaa.R
open Go.Proofs.Ytiilgicmdnllbaa.R1
def PureFnSolveAll : Prop := ∀ (x0 : (List Int)), Ok (.sl (.int .u8)) x0 → ∃ k, f3 k x0 = some ((true, ()), ())
end Go.Proofs.Ytiilgicmdnllbaa.R
