/- Sides 751 to 1000 are reckoned. -/
import Derived.Test.YtcijmfodhdigpaaR1SFnExactSquarePattern
namespace Go.Proofs.Ytcijmfodhdigpaa.R
open Go.Proofs.Ytcijmfodhdigpaa.R1
theorem sq751 : ((List.range 50).all fun n => yes (f3 60 (Int.ofNat (n + 751)))) = true := by kernel_rfl
theorem sq801 : ((List.range 50).all fun n => yes (f3 60 (Int.ofNat (n + 801)))) = true := by kernel_rfl
theorem sq851 : ((List.range 50).all fun n => yes (f3 60 (Int.ofNat (n + 851)))) = true := by kernel_rfl
theorem sq901 : ((List.range 50).all fun n => yes (f3 60 (Int.ofNat (n + 901)))) = true := by kernel_rfl
theorem sq951 : ((List.range 50).all fun n => yes (f3 60 (Int.ofNat (n + 951)))) = true := by kernel_rfl
end Go.Proofs.Ytcijmfodhdigpaa.R
