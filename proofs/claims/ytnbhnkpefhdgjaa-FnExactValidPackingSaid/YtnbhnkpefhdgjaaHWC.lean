/- Short words for what the printed proofs say often: each runs the script that it names. -/
import Derived.Test.YtnbhnkpefhdgjaaHW
namespace Go.Proofs.Ytnbhnkpefhdgjaa.H
open Go.RowKit Go.Proofs.YtnbhnkpefhdgjaaW.PrintWords

theorem bk_ {P Q : Prop} (h : Q) (g : Q → P := by intro h_; (with_reducible repeat (first | refine blk_drewN ?_ _ | refine blk_drew ?_ | refine blk_alloc ?_ _)); exact h_) : P := g h
theorem ra_ {P Q : Prop} (h : Q) (g : Q → P := by intro h_; (with_reducible repeat (first | apply Kd.R_alloc | apply Kd.R_drewN | apply Kd.R_drew)); exact h_) : P := g h
theorem bl0_ {P Q : Prop} (h : Q) (g : Q → P := by intro h_; repeat (first | (with_reducible first | exact h_ | apply below_alloc | apply pw_below_drewN | apply below_drew1) | exact h_)) : P := g h
theorem bl1_ {P Q A : Prop} (h : Q) (a : A) (g : Q → A → P := by intro h_ a_; repeat (first | (with_reducible first | exact h_ | apply below_alloc | apply pw_below_drewN | apply below_drew1 | refine below_set ?_ a_) | exact h_)) : P := g h a
theorem bl2_ {P Q A B : Prop} (h : Q) (a : A) (b : B) (g : Q → A → B → P := by intro h_ a_ b_; repeat (first | (with_reducible first | exact h_ | apply below_alloc | apply pw_below_drewN | apply below_drew1 | refine below_set ?_ a_ | refine below_set ?_ b_) | exact h_)) : P := g h a b
theorem bl3_ {P Q A B C : Prop} (h : Q) (a : A) (b : B) (c : C) (g : Q → A → B → C → P := by intro h_ a_ b_ c_; repeat (first | (with_reducible first | exact h_ | apply below_alloc | apply pw_below_drewN | apply below_drew1 | refine below_set ?_ a_ | refine below_set ?_ b_ | refine below_set ?_ c_) | exact h_)) : P := g h a b c
theorem bl4_ {P Q A B C D : Prop} (h : Q) (a : A) (b : B) (c : C) (d : D) (g : Q → A → B → C → D → P := by intro h_ a_ b_ c_ d_; repeat (first | (with_reducible first | exact h_ | apply below_alloc | apply pw_below_drewN | apply below_drew1 | refine below_set ?_ a_ | refine below_set ?_ b_ | refine below_set ?_ c_ | refine below_set ?_ d_) | exact h_)) : P := g h a b c d
theorem od_ {p : Prop} [Decidable p] (h : decide p = true := by first | (with_reducible assumption) | assumption) : p := of_decide_eq_true h
theorem mp_ {p : Prop} (h : p := by (try simp only [List.map_toArray, List.map_cons, List.map_nil]); first | done | rfl | (simp only [List.length_drop, List.length_take]; rfl)) : p := h
theorem nlt_ {a b c : Nat} (h : b = c) (g : a < c) : a ≠ b := by rw [h]; exact Nat.ne_of_lt g
theorem ngt_ {a b c : Nat} (h : b = c) (g : a < c) : b ≠ a := by rw [h]; exact Nat.ne_of_gt g
theorem ab_ {P Q : Prop} (h : Q) (g : Q → P := by intro h_; first | (rw [add_block]; exact h_) | (show (Addr.add _ _).block ≠ _; rw [add_block]; exact h_) | exact h_) : P := g h

end Go.Proofs.Ytnbhnkpefhdgjaa.H
