/- What the laws' parameters read as: one lemma a record type. Written by this session's own program (myprint.py). -/
import Derived.Test.YtddaiabilhjcpaaDoorAx0
import Derived.Test.YtddaiabilhjcpaaDoorAMOpen
namespace Go.Proofs.YtddaiabilhjcpaaDoor.A
open Go.RowKit Go.Deep Go.WideShapes Go.Proofs.YtddaiabilhjcpaaDoorW.PrintWords Go.Proofs.YtddaiabilhjcpaaDoorM
set_option linter.unusedVariables false
end Go.Proofs.YtddaiabilhjcpaaDoor.A
