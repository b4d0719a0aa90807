/- The plain law FnExactRefute. -/
import Derived.Test.YtiilgicmdnllbaaR1SFnExactRefute
import Derived.Test.YtiilgicmdnllbaaR1SvI
namespace Go.Proofs.Ytiilgicmdnllbaa.R
open Go.Proofs.Ytiilgicmdnllbaa.R1
theorem pureFnExactRefute : PureFnExactRefute := fun x0 h0 x1 _ x2 _ => ⟨2097152, refute_law x0 h0 x1 x2⟩
end Go.Proofs.Ytiilgicmdnllbaa.R
