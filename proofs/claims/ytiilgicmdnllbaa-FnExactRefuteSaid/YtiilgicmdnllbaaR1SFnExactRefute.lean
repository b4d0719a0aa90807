/- What is to be shown of the plain twin of the law FnExactRefute. -/
import Derived.Test.YtiilgicmdnllbaaR1F1
import Derived.Test.YtiilgicmdnllbaaR1Glob
namespace Go.Proofs.Ytiilgicmdnllbaa.R
open Go.Proofs.Ytiilgicmdnllbaa.R1
def PureFnExactRefute : Prop := ∀ (x0 : (List (Int × ((List Int) × (List Int))))), Ok (.sl (.pair (.int .i64) (.pair (.sl (.int .i64)) (.sl (.int .i64))))) x0 → ∀ (x1 : Int), Ok (.int .i64) x1 → ∀ (x2 : Int), Ok (.int .i64) x2 → ∃ k, f6 k x0 x1 x2 = some ((true, ()), ())
end Go.Proofs.Ytiilgicmdnllbaa.R
