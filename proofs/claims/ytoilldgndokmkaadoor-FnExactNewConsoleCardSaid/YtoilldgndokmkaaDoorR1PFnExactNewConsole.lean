/- The plain law FnExactNewConsole: there are no arguments, so it is reckoned. -/
import Derived.Test.YtoilldgndokmkaaDoorR1SFnExactNewConsole
namespace Go.Proofs.YtoilldgndokmkaaDoor.R
open Go.Proofs.YtoilldgndokmkaaDoor.R1
theorem nc : yes (f3 40) = true := by kernel_rfl
theorem pureFnExactNewConsole : PureFnExactNewConsole := ⟨40, yes_some nc⟩
end Go.Proofs.YtoilldgndokmkaaDoor.R
