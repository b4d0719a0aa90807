/- The law FnExactValidTree, over numbers and lists alone. -/
import Derived.Test.YtnbhnkpefhdgjaaStmtFnExactValidTree
import Derived.Test.YtnbhnkpefhdgjaaHTreeOk
namespace Go.Proofs.Ytnbhnkpefhdgjaa.Pure
open Go.RowKit Go.Proofs.Ytnbhnkpefhdgjaa.H Go.Proofs.YtnbhnkpefhdgjaaW.PrintWords Go.Proofs.YtnbhnkpefhdgjaaM Go.Proofs.YtnbhnkpefhdgjaaHT

theorem FnExactValidTree : laws_FnExactValidTree.Pure := by
  intro x0 ⟨_, h0, _⟩
  unfold laws_FnExactValidTree.f
  refine Ev.rounds ?_
  rcases szTree x0.f0 x0.f1 1048576 h0 (by omega) (by omega) with ⟨_, e⟩ | ⟨g0, e⟩
  · exact ev_bindc e (ev_pos (by omega) (Ev.now _))
  refine ev_bindc e (ev_neg (by omega) ?_)
  have T0 := toTree x0.f0 x0.f1 (by omega)
  have hs := spec_ok x0.f0 (x0.f1.map conv) (by simp; omega)
  have hi := impl_ok x0.f0 (x0.f1.map conv) (by simp; omega)
  refine Ev.bind T0 (Ev.bind (a := vT x0.f0 (x0.f1.map conv)) ?_ (Ev.bind T0 (Ev.bind hi (ev_neg (by simp) ?_))))
  · unfold spec_ValidTree.f
    exact Ev.bind hs (Ev.now _)
  · exact Ev.bind T0 (Ev.bind (eqTree_refl _ _ (by simp; omega)) (ev_pos rfl (Ev.now _)))

end Go.Proofs.Ytnbhnkpefhdgjaa.Pure
