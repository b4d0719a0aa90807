/- The law FnExactLeavesOf, over numbers and lists alone. -/
import Derived.Test.YtnbhnkpefhdgjaaStmtFnExactLeavesOf
import Derived.Test.YtnbhnkpefhdgjaaHTreeMark
import Derived.Test.YtnbhnkpefhdgjaaHTreeLeaves
namespace Go.Proofs.Ytnbhnkpefhdgjaa.Pure
open Go.RowKit Go.Proofs.Ytnbhnkpefhdgjaa.H Go.Proofs.YtnbhnkpefhdgjaaW.PrintWords Go.Proofs.YtnbhnkpefhdgjaaM Go.Proofs.YtnbhnkpefhdgjaaHT

def leavesOf (a : Int) (L : List S71) : List Int := if vT a L = true then leavesL a.toNat L else []

theorem leavesOf_len (a : Int) (L : List S71) : (leavesOf a L).length ≤ 16 := by
  unfold leavesOf
  split
  · rename_i h
    obtain ⟨n, rfl, h0, h1, _⟩ := vT_out h
    have := leavesL_len n L
    simp only [Int.toNat_natCast]
    omega
  · simp

theorem spec_leavesOf (a : Int) (L : List S71) (hl : L.length ≤ 1048576) : Ev (fun k => spec_LeavesOf.f k a L) (leavesOf a L) := by
  unfold spec_LeavesOf.f leavesOf
  refine Ev.bind (spec_ok a L hl) ?_
  cases h : vT a L with
  | false => simp only [Bool.false_eq_true, if_false]; exact Ev.now _
  | true =>
    obtain ⟨n, rfl, h0, h1, _⟩ := vT_out h
    simp only [if_true, Int.toNat_natCast]
    exact Ev.bind (spec_leaves n h1 L hl) (Ev.now _)

theorem impl_leavesOf (a : Int) (L : List S71) (hl : L.length ≤ 1048576) : Ev (fun k => impl_LeavesOf.f k a L) (leavesOf a L) := by
  unfold impl_LeavesOf.f leavesOf
  refine Ev.bind (impl_ok a L hl) ?_
  cases h : vT a L with
  | false => simp only [Bool.false_eq_true, if_false]; exact Ev.now _
  | true =>
    obtain ⟨n, rfl, h0, h1, _, hL, _⟩ := vT_out h
    simp only [if_true, Int.toNat_natCast]
    exact Ev.bind (impl_leaves n h1 L hl hL) (Ev.now _)

theorem FnExactLeavesOf : laws_FnExactLeavesOf.Pure := by
  intro x0 ⟨_, h0, _⟩
  unfold laws_FnExactLeavesOf.f
  refine Ev.rounds ?_
  rcases szTree x0.f0 x0.f1 1048576 h0 (by omega) (by omega) with ⟨_, e⟩ | ⟨g0, e⟩
  · exact ev_bindc e (ev_pos (by omega) (Ev.now _))
  refine ev_bindc e (ev_neg (by omega) ?_)
  have T0 := toTree x0.f0 x0.f1 (by omega)
  have hs := spec_leavesOf x0.f0 (x0.f1.map conv) (by simp; omega)
  have hi := impl_leavesOf x0.f0 (x0.f1.map conv) (by simp; omega)
  have hw := leavesOf_len x0.f0 (x0.f1.map conv)
  generalize leavesOf x0.f0 (x0.f1.map conv) = W at *
  have he := eqI_refl W (by omega)
  obtain ⟨v, m, hm, hv⟩ := markT x0.f0 (x0.f1.map conv) (by simp; omega)
  obtain ⟨m2, hm2, hh⟩ := markI W (by omega)
  refine Ev.bind T0 (Ev.bind hs (Ev.bind T0 (Ev.bind hi (Ev.bind he (ev_pos rfl (Ev.bind T0 (Ev.bind (eqTree_refl _ _ (by simp; omega)) (ev_pos rfl (Ev.bind hm (ev_neg (by simp only; omega) (Ev.bind he (ev_succ ?_))))))))))))
  simp only [laws_FnExactLeavesOf.j0, Bool.not_true, Bool.false_eq_true, if_false]
  exact Ev.bind hm2 (Ev.bind hh (ev_neg (by omega) (ev_pos rfl (Ev.bind T0 (Ev.bind hi (Ev.bind he (ev_pos rfl (Ev.bind hh (ev_neg (by omega) (ev_pos rfl (Ev.now _)))))))))))

end Go.Proofs.Ytnbhnkpefhdgjaa.Pure
