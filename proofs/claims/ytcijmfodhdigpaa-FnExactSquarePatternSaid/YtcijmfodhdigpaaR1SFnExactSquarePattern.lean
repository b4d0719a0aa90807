/- What is to be shown of the plain twin of the law FnExactSquarePattern. -/
import Derived.Test.YtcijmfodhdigpaaR1F1
import Derived.Test.YtcijmfodhdigpaaR1Law
namespace Go.Proofs.Ytcijmfodhdigpaa.R
open Go.Proofs.Ytcijmfodhdigpaa.R1
def PureFnExactSquarePattern : Prop := ∀ (x0 : Int), Ok (.int .i64) x0 → ∃ k, f3 k x0 = some ((true, ()), ())
end Go.Proofs.Ytcijmfodhdigpaa.R
