/- What is to be shown of the plain twin of the law FnRefute. -/
import Derived.Test.YtiilgicmdnllbaaR1F1
import Derived.Test.YtiilgicmdnllbaaR1Glob
namespace Go.Proofs.Ytiilgicmdnllbaa.R
open Go.Proofs.Ytiilgicmdnllbaa.R1
def PureFnRefute : Prop := ∀ (x0 : (List Int)), Ok (.sl (.int .u8)) x0 → ∀ (x1 : (List Int)), Ok (.sl (.int .u8)) x1 → ∃ k, f7 k x0 x1 = some ((true, ()), ())
end Go.Proofs.Ytiilgicmdnllbaa.R
