/- What is to be shown of the plain twin of the law FnExactNewConsole. -/
import Derived.Test.YtoilldgndokmkaaDoorR1F1
import Derived.Test.YtoilldgndokmkaaDoorR1Glob
namespace Go.Proofs.YtoilldgndokmkaaDoor.R
open Go.Proofs.YtoilldgndokmkaaDoor.R1
def PureFnExactNewConsole : Prop := ∃ k, f3 k = some ((true, ()), ())
end Go.Proofs.YtoilldgndokmkaaDoor.R
