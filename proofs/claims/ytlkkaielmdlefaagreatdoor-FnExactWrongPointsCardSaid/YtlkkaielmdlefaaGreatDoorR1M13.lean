/- Part 13: The plain law FnExactWrongPoints. -/
import Derived.Test.YtlkkaielmdlefaaGreatDoorR1M7
set_option linter.unusedVariables false
namespace Go.Proofs.YtlkkaielmdlefaaGreatDoor.R
open R1
theorem qN :qC:=λx0 o0=>⟨1048576+500,Mj x0 o0⟩
end Go.Proofs.YtlkkaielmdlefaaGreatDoor.R
