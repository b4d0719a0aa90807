/- Sides 501 to 750 are reckoned. -/
import Derived.Test.YtcijmfodhdigpaaR1SFnExactSquarePattern
namespace Go.Proofs.Ytcijmfodhdigpaa.R
open Go.Proofs.Ytcijmfodhdigpaa.R1
theorem sq501 : ((List.range 50).all fun n => yes (f3 60 (Int.ofNat (n + 501)))) = true := by kernel_rfl
theorem sq551 : ((List.range 50).all fun n => yes (f3 60 (Int.ofNat (n + 551)))) = true := by kernel_rfl
theorem sq601 : ((List.range 50).all fun n => yes (f3 60 (Int.ofNat (n + 601)))) = true := by kernel_rfl
theorem sq651 : ((List.range 50).all fun n => yes (f3 60 (Int.ofNat (n + 651)))) = true := by kernel_rfl
theorem sq701 : ((List.range 50).all fun n => yes (f3 60 (Int.ofNat (n + 701)))) = true := by kernel_rfl
end Go.Proofs.Ytcijmfodhdigpaa.R
