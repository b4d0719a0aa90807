/- What the laws' parameters read as: one lemma a record type. Written by this session's own program (myprint.py). -/
import Derived.Test.YtngboidjemdjcaaAx0
import Derived.Test.YtngboidjemdjcaaAMOpen
namespace Go.Proofs.Ytngboidjemdjcaa.A
open Go.RowKit Go.Deep Go.WideShapes Go.Proofs.YtngboidjemdjcaaW.PrintWords Go.Proofs.YtngboidjemdjcaaM
set_option linter.unusedVariables false
end Go.Proofs.Ytngboidjemdjcaa.A
