/- The law FnExactFirstPacking, over numbers and lists alone. -/
import Derived.Test.YtmckbecegiegaaaStmtFnExactFirstPacking
import Derived.Test.YtmckbecegiegaaaATreeFirstS
import Derived.Test.YtmckbecegiegaaaATreeMark
namespace Go.Proofs.Ytmckbecegiegaaa.Pure
open Go.RowKit Go.Proofs.Ytmckbecegiegaaa.A Go.Proofs.YtmckbecegiegaaaW.PrintWords Go.Proofs.YtmckbecegiegaaaM Go.Proofs.YtmckbecegiegaaaAT

theorem FnExactFirstPacking : laws_FnExactFirstPacking.Pure := by
  intro x0 x1 x2 ⟨_, h0, _⟩ _ _
  unfold laws_FnExactFirstPacking.f
  refine Ev.rounds ?_
  rcases szTree x0.f0 x0.f1 1048576 h0 (by omega) (by omega) with ⟨_, e⟩ | ⟨g0, e⟩
  · exact ev_bindc e (ev_pos (by omega) (Ev.now _))
  refine ev_bindc e (ev_neg (by omega) ?_)
  have T0 := toTree x0.f0 x0.f1 (by omega)
  have hL : (x0.f1.map conv).length ≤ 1048576 := by simp; omega
  have hs := spec_firstP x0.f0 (x0.f1.map conv) hL x1 x2
  have hi := impl_firstP x0.f0 (x0.f1.map conv) hL x1 x2
  have hw := firstP_len x0.f0 (x0.f1.map conv) x1 x2
  have eT := eqTree_refl x0.f0 (x0.f1.map conv) hL
  generalize firstP x0.f0 (x0.f1.map conv) x1 x2 = A at *
  obtain ⟨W, c1, c2⟩ := A
  simp only at hw
  have he := eqSp_refl W (by omega)
  obtain ⟨v, m, hm, hv0, hv1⟩ := markT x0.f0 (x0.f1.map conv) hL
  obtain ⟨m3, hm3, hh⟩ := markSp W (by omega)
  refine Ev.bind T0 (Ev.bind hs (Ev.bind T0 (Ev.bind hi (Ev.bind he (ev_pos rfl (ev_pos rfl (ev_succ ?_)))))))
  simp only [laws_FnExactFirstPacking.j0, bne_self_eq_false, Bool.false_eq_true, if_false]
  refine Ev.bind T0 (Ev.bind eT (ev_pos rfl (Ev.bind hm (ev_neg (by simp only; omega) (Ev.bind he (ev_pos rfl (ev_pos trivial (ev_succ ?_))))))))
  simp only [laws_FnExactFirstPacking.j1, Bool.false_eq_true, if_false]
  refine Ev.bind hm3 (Ev.bind hh (ev_neg (by omega) (ev_pos rfl (Ev.bind T0 (Ev.bind hi (Ev.bind he (ev_pos rfl (ev_pos rfl (ev_succ ?_)))))))))
  simp only [laws_FnExactFirstPacking.j2, bne_self_eq_false, Bool.false_eq_true, if_false]
  exact Ev.bind hh (ev_neg (by omega) (ev_pos rfl (Ev.now _)))

end Go.Proofs.Ytmckbecegiegaaa.Pure
