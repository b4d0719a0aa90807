/- Folded maps: the program's second table is the first one. (Printed by pure/stk.py.) -/
import Derived.Test.YtplcjfnobdlkeaaR1StE
namespace Go.Proofs.Ytplcjfnobdlkeaa.R
open Go.Proofs.Ytplcjfnobdlkeaa.R1

def same2 (r c most : Int) : Prop := f15a 300 r c most ([] : List (List Int)) = (mates r c).bind fun x => some (((), ()), (((), ()), ([] : List (List Int)), (x.2.2.1.1, x.2.2.1.2.1, x.2.2.1.2.2.1, x.2.2.1.2.2.2.1, x.2.2.1.2.2.2.2.1, x.2.2.1.2.2.2.2.2.1, (), (), (), (), (), (((), ()), most), ()), x.2.2.2.1, x.2.2.2.2.1, x.2.2.2.2.2.1, x.2.2.2.2.2.2.1, x.2.2.2.2.2.2.2.1, ()))

theorem same2_1_1 (most : Int) : same2 1 1 most := by
  unfold same2
  kernel_rfl
theorem same2_1_2 (most : Int) : same2 1 2 most := by
  unfold same2
  kernel_rfl
theorem same2_1_3 (most : Int) : same2 1 3 most := by
  unfold same2
  kernel_rfl
theorem same2_1_4 (most : Int) : same2 1 4 most := by
  unfold same2
  kernel_rfl
theorem same2_1_5 (most : Int) : same2 1 5 most := by
  unfold same2
  kernel_rfl
theorem same2_1_6 (most : Int) : same2 1 6 most := by
  unfold same2
  kernel_rfl
theorem same2_1_7 (most : Int) : same2 1 7 most := by
  unfold same2
  kernel_rfl
theorem same2_1_8 (most : Int) : same2 1 8 most := by
  unfold same2
  kernel_rfl
theorem same2_1_9 (most : Int) : same2 1 9 most := by
  unfold same2
  kernel_rfl
theorem same2_2_1 (most : Int) : same2 2 1 most := by
  unfold same2
  kernel_rfl
theorem same2_2_2 (most : Int) : same2 2 2 most := by
  unfold same2
  kernel_rfl
theorem same2_2_3 (most : Int) : same2 2 3 most := by
  unfold same2
  kernel_rfl
theorem same2_2_4 (most : Int) : same2 2 4 most := by
  unfold same2
  kernel_rfl
theorem same2_3_1 (most : Int) : same2 3 1 most := by
  unfold same2
  kernel_rfl
theorem same2_3_2 (most : Int) : same2 3 2 most := by
  unfold same2
  kernel_rfl
theorem same2_3_3 (most : Int) : same2 3 3 most := by
  unfold same2
  kernel_rfl
theorem same2_4_1 (most : Int) : same2 4 1 most := by
  unfold same2
  kernel_rfl
theorem same2_4_2 (most : Int) : same2 4 2 most := by
  unfold same2
  kernel_rfl
theorem same2_5_1 (most : Int) : same2 5 1 most := by
  unfold same2
  kernel_rfl
theorem same2_6_1 (most : Int) : same2 6 1 most := by
  unfold same2
  kernel_rfl
theorem same2_7_1 (most : Int) : same2 7 1 most := by
  unfold same2
  kernel_rfl
theorem same2_8_1 (most : Int) : same2 8 1 most := by
  unfold same2
  kernel_rfl
theorem same2_9_1 (most : Int) : same2 9 1 most := by
  unfold same2
  kernel_rfl

theorem same2_all {r c : Nat} (hr : 1 ≤ r) (hc : 1 ≤ c) (h : r * c ≤ 9) (most : Int) : same2 (r : Int) (c : Int) most := by
  have h1 : r ≤ 9 := Nat.le_trans (Nat.le_mul_of_pos_right r (by omega)) h
  have h2 : c ≤ 9 := Nat.le_trans (Nat.le_mul_of_pos_left c (by omega)) h
  match r, c, hr, hc, h1, h2, h with
  | 1, 1, _, _, _, _, _ => exact same2_1_1 most
  | 1, 2, _, _, _, _, _ => exact same2_1_2 most
  | 1, 3, _, _, _, _, _ => exact same2_1_3 most
  | 1, 4, _, _, _, _, _ => exact same2_1_4 most
  | 1, 5, _, _, _, _, _ => exact same2_1_5 most
  | 1, 6, _, _, _, _, _ => exact same2_1_6 most
  | 1, 7, _, _, _, _, _ => exact same2_1_7 most
  | 1, 8, _, _, _, _, _ => exact same2_1_8 most
  | 1, 9, _, _, _, _, _ => exact same2_1_9 most
  | 2, 1, _, _, _, _, _ => exact same2_2_1 most
  | 2, 2, _, _, _, _, _ => exact same2_2_2 most
  | 2, 3, _, _, _, _, _ => exact same2_2_3 most
  | 2, 4, _, _, _, _, _ => exact same2_2_4 most
  | 2, 5, _, _, _, _, h => exact absurd h (by decide)
  | 2, 6, _, _, _, _, h => exact absurd h (by decide)
  | 2, 7, _, _, _, _, h => exact absurd h (by decide)
  | 2, 8, _, _, _, _, h => exact absurd h (by decide)
  | 2, 9, _, _, _, _, h => exact absurd h (by decide)
  | 3, 1, _, _, _, _, _ => exact same2_3_1 most
  | 3, 2, _, _, _, _, _ => exact same2_3_2 most
  | 3, 3, _, _, _, _, _ => exact same2_3_3 most
  | 3, 4, _, _, _, _, h => exact absurd h (by decide)
  | 3, 5, _, _, _, _, h => exact absurd h (by decide)
  | 3, 6, _, _, _, _, h => exact absurd h (by decide)
  | 3, 7, _, _, _, _, h => exact absurd h (by decide)
  | 3, 8, _, _, _, _, h => exact absurd h (by decide)
  | 3, 9, _, _, _, _, h => exact absurd h (by decide)
  | 4, 1, _, _, _, _, _ => exact same2_4_1 most
  | 4, 2, _, _, _, _, _ => exact same2_4_2 most
  | 4, 3, _, _, _, _, h => exact absurd h (by decide)
  | 4, 4, _, _, _, _, h => exact absurd h (by decide)
  | 4, 5, _, _, _, _, h => exact absurd h (by decide)
  | 4, 6, _, _, _, _, h => exact absurd h (by decide)
  | 4, 7, _, _, _, _, h => exact absurd h (by decide)
  | 4, 8, _, _, _, _, h => exact absurd h (by decide)
  | 4, 9, _, _, _, _, h => exact absurd h (by decide)
  | 5, 1, _, _, _, _, _ => exact same2_5_1 most
  | 5, 2, _, _, _, _, h => exact absurd h (by decide)
  | 5, 3, _, _, _, _, h => exact absurd h (by decide)
  | 5, 4, _, _, _, _, h => exact absurd h (by decide)
  | 5, 5, _, _, _, _, h => exact absurd h (by decide)
  | 5, 6, _, _, _, _, h => exact absurd h (by decide)
  | 5, 7, _, _, _, _, h => exact absurd h (by decide)
  | 5, 8, _, _, _, _, h => exact absurd h (by decide)
  | 5, 9, _, _, _, _, h => exact absurd h (by decide)
  | 6, 1, _, _, _, _, _ => exact same2_6_1 most
  | 6, 2, _, _, _, _, h => exact absurd h (by decide)
  | 6, 3, _, _, _, _, h => exact absurd h (by decide)
  | 6, 4, _, _, _, _, h => exact absurd h (by decide)
  | 6, 5, _, _, _, _, h => exact absurd h (by decide)
  | 6, 6, _, _, _, _, h => exact absurd h (by decide)
  | 6, 7, _, _, _, _, h => exact absurd h (by decide)
  | 6, 8, _, _, _, _, h => exact absurd h (by decide)
  | 6, 9, _, _, _, _, h => exact absurd h (by decide)
  | 7, 1, _, _, _, _, _ => exact same2_7_1 most
  | 7, 2, _, _, _, _, h => exact absurd h (by decide)
  | 7, 3, _, _, _, _, h => exact absurd h (by decide)
  | 7, 4, _, _, _, _, h => exact absurd h (by decide)
  | 7, 5, _, _, _, _, h => exact absurd h (by decide)
  | 7, 6, _, _, _, _, h => exact absurd h (by decide)
  | 7, 7, _, _, _, _, h => exact absurd h (by decide)
  | 7, 8, _, _, _, _, h => exact absurd h (by decide)
  | 7, 9, _, _, _, _, h => exact absurd h (by decide)
  | 8, 1, _, _, _, _, _ => exact same2_8_1 most
  | 8, 2, _, _, _, _, h => exact absurd h (by decide)
  | 8, 3, _, _, _, _, h => exact absurd h (by decide)
  | 8, 4, _, _, _, _, h => exact absurd h (by decide)
  | 8, 5, _, _, _, _, h => exact absurd h (by decide)
  | 8, 6, _, _, _, _, h => exact absurd h (by decide)
  | 8, 7, _, _, _, _, h => exact absurd h (by decide)
  | 8, 8, _, _, _, _, h => exact absurd h (by decide)
  | 8, 9, _, _, _, _, h => exact absurd h (by decide)
  | 9, 1, _, _, _, _, _ => exact same2_9_1 most
  | 9, 2, _, _, _, _, h => exact absurd h (by decide)
  | 9, 3, _, _, _, _, h => exact absurd h (by decide)
  | 9, 4, _, _, _, _, h => exact absurd h (by decide)
  | 9, 5, _, _, _, _, h => exact absurd h (by decide)
  | 9, 6, _, _, _, _, h => exact absurd h (by decide)
  | 9, 7, _, _, _, _, h => exact absurd h (by decide)
  | 9, 8, _, _, _, _, h => exact absurd h (by decide)
  | 9, 9, _, _, _, _, h => exact absurd h (by decide)
end Go.Proofs.Ytplcjfnobdlkeaa.R
