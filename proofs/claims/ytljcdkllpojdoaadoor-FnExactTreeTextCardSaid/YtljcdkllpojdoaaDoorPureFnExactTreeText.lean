/- The law FnExactTreeText, over numbers and lists alone. -/
import Derived.Test.YtljcdkllpojdoaaDoorStmtFnExactTreeText
import Derived.Test.YtljcdkllpojdoaaDoorATreeText
namespace Go.Proofs.YtljcdkllpojdoaaDoor.Pure
open Go.RowKit Go.Proofs.YtljcdkllpojdoaaDoor.A Go.Proofs.YtljcdkllpojdoaaDoorW.PrintWords Go.Proofs.YtljcdkllpojdoaaDoorM Go.Proofs.YtljcdkllpojdoaaDoorAT

def textOf (a : Int) (L : List S43) : ByteArray := if vT a L = true then treeTxt a.toNat L else ⟨#[]⟩

theorem spec_textOf (a : Int) (L : List S43) (hl : L.length ≤ 1048576) : Ev (fun k => spec_TreeText.f k a L) (textOf a L) := by
  unfold spec_TreeText.f textOf
  refine Ev.bind (spec_ok a L hl) ?_
  cases h : vT a L with
  | false => simp only [Bool.false_eq_true, if_false]; exact Ev.now _
  | true =>
    obtain ⟨n, rfl, h0, h1, _, hL, _⟩ := vT_out h
    simp only [if_true, Int.toNat_natCast]
    exact Ev.bind (spec_txt n h0 h1 L hl hL) (Ev.now _)

theorem impl_textOf (a : Int) (L : List S43) (hl : L.length ≤ 1048576) : Ev (fun k => impl_TreeText.f k a L) (textOf a L) := by
  unfold impl_TreeText.f textOf
  refine Ev.bind (impl_ok a L hl) ?_
  cases h : vT a L with
  | false => simp only [Bool.false_eq_true, if_false]; exact Ev.now _
  | true =>
    obtain ⟨n, rfl, h0, h1, _, hL, _⟩ := vT_out h
    simp only [if_true, Int.toNat_natCast]
    exact Ev.bind (impl_txt n h0 h1 L hl hL) (Ev.now _)

theorem FnExactTreeText : laws_FnExactTreeText.Pure := by
  intro x0 ⟨_, h0, _⟩
  unfold laws_FnExactTreeText.f
  refine Ev.rounds ?_
  rcases szTree x0.f0 x0.f1 1048576 h0 (by omega) (by omega) with ⟨_, e⟩ | ⟨g0, e⟩
  · exact ev_bindc e (ev_pos (by omega) (Ev.now _))
  refine ev_bindc e (ev_neg (by omega) ?_)
  have T0 := toTree x0.f0 x0.f1 (by omega)
  have hs := spec_textOf x0.f0 (x0.f1.map conv) (by simp; omega)
  have hi := impl_textOf x0.f0 (x0.f1.map conv) (by simp; omega)
  exact Ev.bind T0 (Ev.bind hs (Ev.bind T0 (Ev.bind hi (ev_pos rfl (Ev.bind T0 (Ev.bind (eqTree_refl _ _ (by simp; omega)) (ev_pos rfl (Ev.now _))))))))

end Go.Proofs.YtljcdkllpojdoaaDoor.Pure
