/- Sides 251 to 500 are reckoned. -/
import Derived.Test.YtcijmfodhdigpaaR1SFnExactSquarePattern
namespace Go.Proofs.Ytcijmfodhdigpaa.R
open Go.Proofs.Ytcijmfodhdigpaa.R1
theorem sq251 : ((List.range 50).all fun n => yes (f3 60 (Int.ofNat (n + 251)))) = true := by kernel_rfl
theorem sq301 : ((List.range 50).all fun n => yes (f3 60 (Int.ofNat (n + 301)))) = true := by kernel_rfl
theorem sq351 : ((List.range 50).all fun n => yes (f3 60 (Int.ofNat (n + 351)))) = true := by kernel_rfl
theorem sq401 : ((List.range 50).all fun n => yes (f3 60 (Int.ofNat (n + 401)))) = true := by kernel_rfl
theorem sq451 : ((List.range 50).all fun n => yes (f3 60 (Int.ofNat (n + 451)))) = true := by kernel_rfl
end Go.Proofs.Ytcijmfodhdigpaa.R
