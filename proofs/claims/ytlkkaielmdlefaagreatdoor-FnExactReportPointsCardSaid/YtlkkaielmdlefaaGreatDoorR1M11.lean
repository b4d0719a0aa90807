/- Part 11: The plain law FnExactReportPoints. -/
import Derived.Test.YtlkkaielmdlefaaGreatDoorR1M7
set_option linter.unusedVariables false
namespace Go.Proofs.YtlkkaielmdlefaaGreatDoor.R
open R1
theorem pX :pW:=λx0 o0=>⟨1048576+500,FP x0 o0⟩
end Go.Proofs.YtlkkaielmdlefaaGreatDoor.R
