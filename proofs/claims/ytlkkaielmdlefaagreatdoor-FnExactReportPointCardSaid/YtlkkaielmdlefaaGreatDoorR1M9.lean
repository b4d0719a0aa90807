/- Part 9: The plain law FnExactReportPoint. -/
import Derived.Test.YtlkkaielmdlefaaGreatDoorR1M7
set_option linter.unusedVariables false
namespace Go.Proofs.YtlkkaielmdlefaaGreatDoor.R
open R1
theorem qM :qB:=λx0 o0 x1 _=>⟨1048576+500,JA x0 o0 x1⟩
end Go.Proofs.YtlkkaielmdlefaaGreatDoor.R
