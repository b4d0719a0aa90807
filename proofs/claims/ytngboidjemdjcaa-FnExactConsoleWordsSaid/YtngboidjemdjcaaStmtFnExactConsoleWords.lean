/- The pure statement of the law FnExactConsoleWords. -/
import Derived.Test.YtngboidjemdjcaaAx1
import Derived.Test.YtngboidjemdjcaaAKinds
namespace Go.Proofs.Ytngboidjemdjcaa.A
open Go.RowKit Go.Proofs.YtngboidjemdjcaaW.PrintWords
def laws_FnExactConsoleWords.Pure : Prop := ∃ k, laws_FnExactConsoleWords.f k  = some true
end Go.Proofs.Ytngboidjemdjcaa.A
