/- Trees are compared: a tree is itself. -/
import Derived.Test.YtddaiabilhjcpaaDoorATreeFar
import Derived.Test.YtddaiabilhjcpaaDoorAx11
namespace Go.Proofs.YtddaiabilhjcpaaDoorAT
open Go.RowKit Go.Proofs.YtddaiabilhjcpaaDoor.A Go.Proofs.YtddaiabilhjcpaaDoorW.PrintWords Go.Proofs.YtddaiabilhjcpaaDoorM

theorem ext71 {a b : S52} (h0 : a.f0 = b.f0) (h1 : a.f1 = b.f1) (h2 : a.f2 = b.f2) : a = b := by
  cases a; cases b; simp_all

theorem eqEdges_refl_loop (l : List S52) (hl : l.length ≤ 1048576) : ∀ (d n : Nat), n + d = l.length → Ev (fun k => laws_eqTreeEdgeS.l0 k l l (n : Int)) true
  | 0, n, hn => by
    refine Ev.step (f := fun _ => some true) (fun k => ?_) (Ev.now _)
    simp only [laws_eqTreeEdgeS.l0]
    rw [if_neg (by omega)]
  | d + 1, n, hn => by
    refine Ev.step (f := fun k => laws_eqTreeEdgeS.l0 k l l ((n + 1 : Nat) : Int)) (fun k => ?_) (eqEdges_refl_loop l hl d (n + 1) (by omega))
    simp only [laws_eqTreeEdgeS.l0, laws_eqTreeEdge.f, if_true, Option.bind_some]
    rw [if_pos (by omega), if_pos (by omega), if_pos (by omega), w64 (by omega) (by omega)]
    rfl

theorem eqTree_refl (a : Int) (l : List S52) (hl : l.length ≤ 1048576) : Ev (fun k => laws_eqTree.f k a l a l) true := by
  unfold laws_eqTree.f
  simp only [if_true]
  refine Ev.bind (a := true) ?_ (Ev.now _)
  unfold laws_eqTreeEdgeS.f
  simp only [if_true]
  exact eqEdges_refl_loop l hl l.length 0 (by omega)

end Go.Proofs.YtddaiabilhjcpaaDoorAT
