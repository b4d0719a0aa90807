/- The plain law FnRefute. -/
import Derived.Test.YtiilgicmdnllbaaR1SFnRefute
import Derived.Test.YtiilgicmdnllbaaR1SvQ
namespace Go.Proofs.Ytiilgicmdnllbaa.R
open Go.Proofs.Ytiilgicmdnllbaa.R1
theorem pureFnRefute : PureFnRefute := fun x0 h0 x1 h1 => ⟨KK, refuteFn_law x0 h0 x1 h1⟩
end Go.Proofs.Ytiilgicmdnllbaa.R
