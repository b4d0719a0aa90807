/- The law FnExactReadTree, over numbers and lists alone. -/
import Derived.Test.YtddaiabilhjcpaaDoorStmtFnExactReadTree
import Derived.Test.YtddaiabilhjcpaaDoorATreeReadS
import Derived.Test.YtddaiabilhjcpaaDoorATreeHeld
namespace Go.Proofs.YtddaiabilhjcpaaDoor.Pure
open Go.RowKit Go.Proofs.YtddaiabilhjcpaaDoor.A Go.Proofs.YtddaiabilhjcpaaDoorW.PrintWords Go.Proofs.YtddaiabilhjcpaaDoorM Go.Proofs.YtddaiabilhjcpaaDoorAT

theorem FnExactReadTree : laws_FnExactReadTree.Pure := by
  intro s _
  unfold laws_FnExactReadTree.f
  refine Ev.rounds ?_
  by_cases c : (s.size : Int) > 1048576
  · exact ev_pos c (Ev.now _)
  obtain ⟨⟨a, L, b⟩, h1, h2, _, hl⟩ := read_both s (by omega)
  have hE := eqTree_refl a L hl
  obtain ⟨m, g1, g2⟩ := markTS a L hl
  have q : (b != b) = false := by simp
  refine ev_neg c (Ev.bind h1 (Ev.bind h2 (Ev.bind hE (ev_pos rfl (ev_succ ?_)))))
  simp only [laws_FnExactReadTree.j0, q]
  refine ev_neg (by simp) (Ev.bind g1 (Ev.bind g2 (ev_neg (by omega) (ev_pos (by first | rfl | trivial) (Ev.bind h2 (Ev.bind hE (ev_pos (by first | rfl | trivial) (ev_succ ?_))))))))
  simp only [laws_FnExactReadTree.j1, q]
  exact ev_neg (by simp) (Ev.bind g2 (ev_neg (by omega) (ev_pos (by first | rfl | trivial) (Ev.now _))))

end Go.Proofs.YtddaiabilhjcpaaDoor.Pure
