/- The law FnExactValidPacking, over numbers and lists alone. -/
import Derived.Test.YtnbhnkpefhdgjaaStmtFnExactValidPacking
import Derived.Test.YtnbhnkpefhdgjaaHTreePack
namespace Go.Proofs.Ytnbhnkpefhdgjaa.Pure
open Go.RowKit Go.Proofs.Ytnbhnkpefhdgjaa.H Go.Proofs.YtnbhnkpefhdgjaaW.PrintWords Go.Proofs.YtnbhnkpefhdgjaaM Go.Proofs.YtnbhnkpefhdgjaaHT

theorem FnExactValidPacking : laws_FnExactValidPacking.Pure := by
  intro x0 x1 x2 ⟨_, h0, _⟩ _ ⟨h2, _⟩
  unfold laws_FnExactValidPacking.f
  refine Ev.rounds ?_
  rcases szTree x0.f0 x0.f1 1048576 h0 (by omega) (by omega) with ⟨_, e⟩ | ⟨g0, e⟩
  · exact ev_bindc e (ev_pos (by omega) (Ev.now _))
  refine ev_bindc e (ev_neg (by omega) ?_)
  rcases szSpots x2 (1048576 - x0.f1.length) h2 (by omega) (by omega) with ⟨_, e⟩ | ⟨g1, e⟩
  · exact ev_bindc e (ev_pos (by omega) (Ev.now _))
  refine ev_bindc e (ev_neg (by omega) ?_)
  have T0 := toTree x0.f0 x0.f1 (by omega)
  have T2 := toSpots x2 (by omega)
  have hs := spec_valid x0.f0 (x0.f1.map conv) (by simp; omega) x1 (x2.map convS) (by simp; omega)
  have hi := impl_valid x0.f0 (x0.f1.map conv) (by simp; omega) x1 (x2.map convS) (by simp; omega)
  refine Ev.bind T0 (Ev.bind T2 (Ev.bind (a := vP x0.f0 (x0.f1.map conv) x1 (x2.map convS)) hs (Ev.bind T0 (Ev.bind T2 (Ev.bind hi (ev_neg (by simp) ?_))))))
  exact Ev.bind T0 (Ev.bind (eqTree_refl _ _ (by simp; omega)) (ev_pos rfl (Ev.bind T2 (Ev.bind (eqSpots_refl _ (by simp; omega)) (ev_pos rfl (Ev.now _))))))

end Go.Proofs.Ytnbhnkpefhdgjaa.Pure
