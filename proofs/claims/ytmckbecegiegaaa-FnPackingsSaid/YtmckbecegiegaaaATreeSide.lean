/- The smallest side, by the program. -/
import Derived.Test.YtmckbecegiegaaaATreeFirst
import Derived.Test.YtmckbecegiegaaaAx18
namespace Go.Proofs.YtmckbecegiegaaaAT
open Go.RowKit Go.Proofs.Ytmckbecegiegaaa.A Go.Proofs.YtmckbecegiegaaaW.PrintWords Go.Proofs.YtmckbecegiegaaaM

def smallN (n : Nat) (L : List S75) (w : Nat) : Nat → Nat → Int × Int
  | 0, _ => (0, 3)
  | d + 1, x => if (firstN n L x w).2.2 = 0 then ((x : Int), 0) else if (firstN n L x w).2.2 = 10 then (0, 10) else smallN n L w d (x + 1)

def smallP (a : Int) (L : List S75) (s w : Int) : Int × Int :=
  if vT a L = true then (if (decide (1 ≤ s) && decide (s ≤ 40)) = true then (if (decide (0 ≤ w) && decide (w ≤ 20000)) = true then smallN a.toNat L w.toNat s.toNat 1 else (0, 2)) else (0, 2)) else (0, 1)

theorem impl_small (n : Nat) (hn : n ≤ 16) (L : List S75) (hl : L.length ≤ 1048576) (hL : ∀ e ∈ L, GE n e) (most w : Nat) (hm : most ≤ 40) (hw : w ≤ 20000) : ∀ (d x : Nat), x + d = most + 1 →
    Ev (fun k => impl_SmallestSide.l0 k (most : Int) (w : Int) (x : Int) (n : Int) L) (smallN n L w d x)
  | 0, x, hx => by
    refine ev_succ ?_
    simp only [impl_SmallestSide.l0, smallN]
    exact ev_neg (by omega) (Ev.now _)
  | d + 1, x, hx => by
    refine ev_succ ?_
    simp only [impl_SmallestSide.l0, wnext x (by omega), smallN]
    refine ev_pos (by omega) (Ev.bind (impl_first n hn L hl hL x w (by omega) hw) ?_)
    by_cases q : (firstN n L x w).2.2 = 0
    · rw [if_pos q]; exact ev_pos q (Ev.now _)
    · rw [if_neg q]
      refine ev_neg q ?_
      by_cases q2 : (firstN n L x w).2.2 = 10
      · rw [if_pos q2]; exact ev_pos q2 (Ev.now _)
      · rw [if_neg q2]; exact ev_neg q2 (impl_small n hn L hl hL most w hm hw d (x + 1) (by omega))

theorem impl_smallP (a : Int) (L : List S75) (hl : L.length ≤ 1048576) (s w : Int) : Ev (fun k => impl_SmallestSide.f k a L s w) (smallP a L s w) := by
  unfold impl_SmallestSide.f smallP
  refine Ev.bind (impl_ok a L hl) ?_
  cases h : vT a L with
  | false => simp only [Bool.false_eq_true, if_false]; exact Ev.now _
  | true =>
    obtain ⟨n, rfl, h0, h1, _, hL, _⟩ := vT_out h
    simp only [if_true]
    refine ev_bindc (a := (decide (1 ≤ s) && decide (s ≤ 40))) (by simp only [impl_isGridSide.f, within_iff, Option.bind_some]) ?_
    cases q : (decide (1 ≤ s) && decide (s ≤ 40)) with
    | false => simp only [Bool.false_eq_true, if_false]; exact Ev.now _
    | true =>
      simp only [if_true]
      refine ev_bindc (a := (decide (0 ≤ w) && decide (w ≤ 20000))) (by simp only [impl_isWork.f, within_iff, Option.bind_some]) ?_
      cases q2 : (decide (0 ≤ w) && decide (w ≤ 20000)) with
      | false => simp only [Bool.false_eq_true, if_false]; exact Ev.now _
      | true =>
        simp only [if_true]
        simp only [Bool.and_eq_true, decide_eq_true_iff] at q q2
        obtain ⟨m, rfl⟩ : ∃ m : Nat, s = m := ⟨s.toNat, by omega⟩
        obtain ⟨v, rfl⟩ : ∃ v : Nat, w = v := ⟨w.toNat, by omega⟩
        simp only [Int.toNat_natCast]
        exact impl_small n h1 L hl hL m v (by omega) (by omega) m 1 (by omega)

end Go.Proofs.YtmckbecegiegaaaAT
