/- The plain law FnExactSquarePattern: a side that is no side is refused by both; the others are reckoned. -/
import Derived.Test.YtcijmfodhdigpaaR1Q0
import Derived.Test.YtcijmfodhdigpaaR1Q1
import Derived.Test.YtcijmfodhdigpaaR1Q2
import Derived.Test.YtcijmfodhdigpaaR1Q3
namespace Go.Proofs.Ytcijmfodhdigpaa.R
open Go.Proofs.Ytcijmfodhdigpaa.R1
theorem sq_at {b : Nat} (h : ((List.range 50).all fun n => yes (f3 60 (Int.ofNat (n + b)))) = true) (x : Int) (h1 : (b : Int) ≤ x) (h2 : x < b + 50) : ∃ k, f3 k x = some ((true, ()), ()) := by
  have h := List.all_eq_true.1 h (x.toNat - b) (List.mem_range.2 (by omega))
  rw [show Int.ofNat (x.toNat - b + b) = x by show ((x.toNat - b + b : Nat) : Int) = x; omega] at h
  exact ⟨60, yes_some h⟩
theorem sq_in19 (x : Int) (h : x < 1 ∨ 1000 < x) : f19 60 x 1 1000 = some ((false, ()), ()) := by
  unfold f19
  rcases h with h | h
  · rw [show decide (x ≥ 1) = false from decide_eq_false (by omega)]; rfl
  · rw [show decide (x ≥ 1) = true from decide_eq_true (by omega), show decide (x ≤ 1000) = false from decide_eq_false (by omega)]; rfl
theorem sq_in24 (x : Int) (h : x < 1 ∨ 1000 < x) : f24 60 x 1 1000 = some ((false, ()), ()) := by
  unfold f24
  rcases h with h | h
  · rw [show decide (x ≥ 1) = false from decide_eq_false (by omega)]; rfl
  · rw [show decide (x ≥ 1) = true from decide_eq_true (by omega), show decide (x ≤ 1000) = false from decide_eq_false (by omega)]; rfl
theorem sq_f4 (x : Int) (h : x < 1 ∨ 1000 < x) : f4 60 x = f4 60 0 := by
  have e : ∀ x : Int, f19 60 x 1 1000 = some ((false, ()), ()) → f4 60 x = some (((([] : List ((Int × (Int × Int)) × (Int × (Int × Int)))), (), ()), 2, ()), (([] : List (Int × (Int × Int))), ())) := by
    intro x h; unfold f4 f9; rw [h]; rfl
  rw [e x (sq_in19 x h), e 0 (sq_in19 0 (by omega))]
theorem sq_f5 (x : Int) (h : x < 1 ∨ 1000 < x) : f5 60 x = f5 60 0 := by
  have e : ∀ x : Int, f24 60 x 1 1000 = some ((false, ()), ()) → f5 60 x = some ((((), (), ()), 2, ()), (([] : List ((Int × (Int × Int)) × (Int × (Int × Int)))), ([] : List (Int × (Int × Int))), ())) := by
    intro x h; unfold f5 f11; rw [h]; rfl
  rw [e x (sq_in24 x h), e 0 (sq_in24 0 (by omega))]
theorem sq_zero : yes (f3 60 0) = true := by kernel_rfl
theorem sq_out (x : Int) (h : x < 1 ∨ 1000 < x) : f3 60 x = some ((true, ()), ()) := by
  have e : f3 60 x = f3 60 0 := by
    unfold f3
    rw [sq_f4 x h, sq_f5 x h]
  rw [e]; exact yes_some sq_zero
theorem pureFnExactSquarePattern : PureFnExactSquarePattern := by
  intro x _
  by_cases h : x < 1 ∨ 1000 < x
  · exact ⟨60, sq_out x h⟩
  by_cases h1 : x < 51
  · exact sq_at sq1 x (by omega) (by omega)
  by_cases h51 : x < 101
  · exact sq_at sq51 x (by omega) (by omega)
  by_cases h101 : x < 151
  · exact sq_at sq101 x (by omega) (by omega)
  by_cases h151 : x < 201
  · exact sq_at sq151 x (by omega) (by omega)
  by_cases h201 : x < 251
  · exact sq_at sq201 x (by omega) (by omega)
  by_cases h251 : x < 301
  · exact sq_at sq251 x (by omega) (by omega)
  by_cases h301 : x < 351
  · exact sq_at sq301 x (by omega) (by omega)
  by_cases h351 : x < 401
  · exact sq_at sq351 x (by omega) (by omega)
  by_cases h401 : x < 451
  · exact sq_at sq401 x (by omega) (by omega)
  by_cases h451 : x < 501
  · exact sq_at sq451 x (by omega) (by omega)
  by_cases h501 : x < 551
  · exact sq_at sq501 x (by omega) (by omega)
  by_cases h551 : x < 601
  · exact sq_at sq551 x (by omega) (by omega)
  by_cases h601 : x < 651
  · exact sq_at sq601 x (by omega) (by omega)
  by_cases h651 : x < 701
  · exact sq_at sq651 x (by omega) (by omega)
  by_cases h701 : x < 751
  · exact sq_at sq701 x (by omega) (by omega)
  by_cases h751 : x < 801
  · exact sq_at sq751 x (by omega) (by omega)
  by_cases h801 : x < 851
  · exact sq_at sq801 x (by omega) (by omega)
  by_cases h851 : x < 901
  · exact sq_at sq851 x (by omega) (by omega)
  by_cases h901 : x < 951
  · exact sq_at sq901 x (by omega) (by omega)
  exact sq_at sq951 x (by omega) (by omega)
end Go.Proofs.Ytcijmfodhdigpaa.R
