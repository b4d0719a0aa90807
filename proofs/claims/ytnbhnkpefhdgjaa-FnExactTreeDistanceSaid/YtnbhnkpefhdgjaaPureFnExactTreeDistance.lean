/- The law FnExactTreeDistance, over numbers and lists alone. -/
import Derived.Test.YtnbhnkpefhdgjaaStmtFnExactTreeDistance
import Derived.Test.YtnbhnkpefhdgjaaHTreeAsk
namespace Go.Proofs.Ytnbhnkpefhdgjaa.Pure
open Go.RowKit Go.Proofs.Ytnbhnkpefhdgjaa.H Go.Proofs.YtnbhnkpefhdgjaaW.PrintWords Go.Proofs.YtnbhnkpefhdgjaaM Go.Proofs.YtnbhnkpefhdgjaaHT

def dist (a : Int) (L : List S71) (x y : Int) : Int := if askT a L x y = true then rd (tab a.toNat L x).1 y else -1

theorem spec_dist (a : Int) (L : List S71) (hl : L.length ≤ 1048576) (x y : Int) : Ev (fun k => spec_TreeDistance.f k a L x y) (dist a L x y) := by
  unfold spec_TreeDistance.f dist
  refine Ev.bind (spec_ask a L hl x y) ?_
  cases h : askT a L x y with
  | false => simp only [Bool.false_eq_true, if_false]; exact Ev.now _
  | true =>
    obtain ⟨n, rfl, h0, h1, _, hL, _, _, x0, x1, y0, y1⟩ := askT_out h
    simp only [if_true, Int.toNat_natCast]
    have hlen := tab_len n L x x0 x1 hL
    exact Ev.bind (reach_ev n h1 L hl x x0 x1 hL) (ev_pos (by omega) (ev_pos (by omega) (Ev.now _)))

theorem impl_dist (a : Int) (L : List S71) (hl : L.length ≤ 1048576) (x y : Int) : Ev (fun k => impl_TreeDistance.f k a L x y) (dist a L x y) := by
  unfold impl_TreeDistance.f dist
  refine Ev.bind (impl_ok a L hl) ?_
  cases hv : vT a L with
  | false => rw [if_neg (by simp [askT, hv])]; exact ev_neg (by simp) (Ev.now _)
  | true =>
    refine ev_pos rfl ?_
    obtain ⟨n, rfl, h0, h1, _, hL, _, _⟩ := vT_out hv
    refine ev_bindc (isNode n (by omega) (by omega) L x) ?_
    by_cases hx : nodeB n x = true
    · refine ev_pos hx (ev_bindc (isNode n (by omega) (by omega) L y) ?_)
      by_cases hy : nodeB n y = true
      · refine ev_pos hy ?_
        rw [if_pos (by simp [askT, hv, hx, hy])]
        simp only [nodeB, Bool.and_eq_true, decide_eq_true_iff] at hx hy
        have hlen := tab_len n L x hx.1 hx.2 hL
        simp only [Int.toNat_natCast]
        exact Ev.bind (far_ev n h1 L hl x hx.1 hx.2 hL) (ev_pos (by omega) (ev_pos (by omega) (Ev.now _)))
      · rw [if_neg (by simp [askT, hy])]
        exact ev_neg hy (Ev.now _)
    · rw [if_neg (by simp [askT, hx])]
      exact ev_neg hx (Ev.now _)

theorem FnExactTreeDistance : laws_FnExactTreeDistance.Pure := by
  intro x0 x1 x2 ⟨_, h0, _⟩ _ _
  unfold laws_FnExactTreeDistance.f
  refine Ev.rounds ?_
  rcases szTree x0.f0 x0.f1 1048576 h0 (by omega) (by omega) with ⟨_, e⟩ | ⟨g0, e⟩
  · exact ev_bindc e (ev_pos (by omega) (Ev.now _))
  refine ev_bindc e (ev_neg (by omega) ?_)
  have T0 := toTree x0.f0 x0.f1 (by omega)
  have hs := spec_dist x0.f0 (x0.f1.map conv) (by simp; omega) x1 x2
  have hi := impl_dist x0.f0 (x0.f1.map conv) (by simp; omega) x1 x2
  exact Ev.bind T0 (Ev.bind hs (Ev.bind T0 (Ev.bind hi (ev_pos rfl (Ev.bind T0 (Ev.bind (eqTree_refl _ _ (by simp; omega)) (ev_pos rfl (Ev.now _))))))))

end Go.Proofs.Ytnbhnkpefhdgjaa.Pure
