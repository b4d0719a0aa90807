/- The law FnExactSmallestSide, over numbers and lists alone. -/
import Derived.Test.YtmckbecegiegaaaStmtFnExactSmallestSide
import Derived.Test.YtmckbecegiegaaaATreeSide
import Derived.Test.YtmckbecegiegaaaAx19
namespace Go.Proofs.Ytmckbecegiegaaa.Pure
open Go.RowKit Go.Proofs.Ytmckbecegiegaaa.A Go.Proofs.YtmckbecegiegaaaW.PrintWords Go.Proofs.YtmckbecegiegaaaM Go.Proofs.YtmckbecegiegaaaAT

theorem spec_small (n : Nat) (hn : n ≤ 16) (L : List S75) (hl : L.length ≤ 1048576) (hL : ∀ e ∈ L, GE n e) (most w : Nat) (hm : most ≤ 40) (hw : w ≤ 20000) : ∀ (d x : Nat), x + d = most + 1 →
    Ev (fun k => spec_SmallestSide.l0 k (most : Int) (w : Int) (x : Int) (n : Int) L) (smallN n L w d x)
  | 0, x, hx => by
    refine ev_succ ?_
    simp only [spec_SmallestSide.l0, smallN]
    exact ev_neg (by omega) (Ev.now _)
  | d + 1, x, hx => by
    refine ev_succ ?_
    simp only [spec_SmallestSide.l0, wnext x (by omega), smallN]
    refine ev_pos (by omega) (Ev.bind (spec_first n hn L hl hL x w (by omega) hw) ?_)
    by_cases q : (firstN n L x w).2.2 = 0
    · rw [if_pos q]; exact ev_pos q (Ev.now _)
    · rw [if_neg q]
      refine ev_neg q ?_
      by_cases q2 : (firstN n L x w).2.2 = 10
      · rw [if_pos q2]
        refine ev_pos q2 ?_
        rw [q2]
        exact Ev.now _
      · rw [if_neg q2]; exact ev_neg q2 (spec_small n hn L hl hL most w hm hw d (x + 1) (by omega))

theorem spec_smallP (a : Int) (L : List S75) (hl : L.length ≤ 1048576) (s w : Int) : Ev (fun k => spec_SmallestSide.f k a L s w) (smallP a L s w) := by
  have bad : ∀ s w, Ev (fun k => spec_SmallestSide.j0 k s w true a L) (0, 2) := by
    intro s w
    refine ev_succ ?_
    simp only [spec_SmallestSide.j0, if_true]
    exact Ev.now _
  unfold spec_SmallestSide.f smallP
  refine Ev.bind (spec_ok a L hl) ?_
  cases h : vT a L with
  | false => simp only [Bool.false_eq_true, if_false]; exact Ev.now _
  | true =>
    obtain ⟨n, rfl, h0, h1, _, hL, _⟩ := vT_out h
    simp only [if_true]
    refine ev_bindc (in_iff s 1 40) ?_
    cases q : (decide (1 ≤ s) && decide (s ≤ 40)) with
    | false => simp only [Bool.false_eq_true, if_false]; exact bad _ _
    | true =>
      simp only [if_true]
      refine ev_bindc (in_iff w 0 20000) ?_
      cases q2 : (decide (0 ≤ w) && decide (w ≤ 20000)) with
      | false => simp only [Bool.not_false, Bool.false_eq_true, if_false]; exact bad _ _
      | true =>
        simp only [Bool.not_true, if_true]
        simp only [Bool.and_eq_true, decide_eq_true_iff] at q q2
        obtain ⟨m, rfl⟩ : ∃ m : Nat, s = m := ⟨s.toNat, by omega⟩
        obtain ⟨v, rfl⟩ : ∃ v : Nat, w = v := ⟨w.toNat, by omega⟩
        simp only [Int.toNat_natCast]
        refine ev_succ ?_
        simp only [spec_SmallestSide.j0, Bool.false_eq_true, if_false]
        exact spec_small n h1 L hl hL m v (by omega) (by omega) m 1 (by omega)

theorem FnExactSmallestSide : laws_FnExactSmallestSide.Pure := by
  intro x0 x1 x2 ⟨_, h0, _⟩ _ _
  unfold laws_FnExactSmallestSide.f
  refine Ev.rounds ?_
  rcases szTree x0.f0 x0.f1 1048576 h0 (by omega) (by omega) with ⟨_, e⟩ | ⟨g0, e⟩
  · exact ev_bindc e (ev_pos (by omega) (Ev.now _))
  refine ev_bindc e (ev_neg (by omega) ?_)
  have T0 := toTree x0.f0 x0.f1 (by omega)
  have hL : (x0.f1.map conv).length ≤ 1048576 := by simp; omega
  have hs := spec_smallP x0.f0 (x0.f1.map conv) hL x1 x2
  have hi := impl_smallP x0.f0 (x0.f1.map conv) hL x1 x2
  have eT := eqTree_refl x0.f0 (x0.f1.map conv) hL
  refine Ev.bind T0 (Ev.bind hs (Ev.bind T0 (Ev.bind hi (ev_pos rfl (ev_succ ?_)))))
  simp only [laws_FnExactSmallestSide.j0, bne_self_eq_false, Bool.false_eq_true, if_false]
  exact Ev.bind T0 (Ev.bind eT (ev_pos rfl (Ev.now _)))

end Go.Proofs.Ytmckbecegiegaaa.Pure
