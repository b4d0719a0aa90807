/- Sides 1 to 250 are reckoned. -/
import Derived.Test.YtcijmfodhdigpaaR1SFnExactSquarePattern
namespace Go.Proofs.Ytcijmfodhdigpaa.R
open Go.Proofs.Ytcijmfodhdigpaa.R1
theorem sq1 : ((List.range 50).all fun n => yes (f3 60 (Int.ofNat (n + 1)))) = true := by kernel_rfl
theorem sq51 : ((List.range 50).all fun n => yes (f3 60 (Int.ofNat (n + 51)))) = true := by kernel_rfl
theorem sq101 : ((List.range 50).all fun n => yes (f3 60 (Int.ofNat (n + 101)))) = true := by kernel_rfl
theorem sq151 : ((List.range 50).all fun n => yes (f3 60 (Int.ofNat (n + 151)))) = true := by kernel_rfl
theorem sq201 : ((List.range 50).all fun n => yes (f3 60 (Int.ofNat (n + 201)))) = true := by kernel_rfl
end Go.Proofs.Ytcijmfodhdigpaa.R
