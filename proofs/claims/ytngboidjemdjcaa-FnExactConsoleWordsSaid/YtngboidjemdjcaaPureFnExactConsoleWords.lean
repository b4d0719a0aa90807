/- The law FnExactConsoleWords: it has no argument: reckoned. -/
import Derived.Test.YtngboidjemdjcaaStmtFnExactConsoleWords
namespace Go.Proofs.Ytngboidjemdjcaa.Pure
open Go.RowKit Go.Proofs.Ytngboidjemdjcaa.A Go.Proofs.YtngboidjemdjcaaW.PrintWords

theorem FnExactConsoleWords : laws_FnExactConsoleWords.Pure := ⟨40, by decide +kernel⟩

end Go.Proofs.Ytngboidjemdjcaa.Pure
