/- What the laws about trees share: a tree handed over by the law, and a tree compared with itself. -/
import Derived.Test.YtmckbecegiegaaaATreeFar
import Derived.Test.YtmckbecegiegaaaAx9
namespace Go.Proofs.YtmckbecegiegaaaAT
open Go.RowKit Go.Proofs.Ytmckbecegiegaaa.A Go.Proofs.YtmckbecegiegaaaW.PrintWords Go.Proofs.YtmckbecegiegaaaM

theorem ext71 {a b : S75} (h0 : a.f0 = b.f0) (h1 : a.f1 = b.f1) (h2 : a.f2 = b.f2) : a = b := by
  cases a; cases b; simp_all

def conv (x : S96) : S75 := ⟨x.f0, x.f1, x.f2⟩

theorem rd104 (l : List S96) (n : Nat) (h : n < l.length) : rd_T96 l (n : Int) = l[n] := by
  simp [rd_T96, h]
theorem toEdges_loop (l : List S96) (hl : l.length ≤ 1048576) : ∀ (d n : Nat) (x : List S75), x.length = l.length → n + d = l.length → (∀ j, j < n → x[j]? = (l.map conv)[j]?) →
    Ev (fun k => laws_toTreeEdgeS.l0 k l x (n : Int)) (l.map conv)
  | 0, n, x, hx, hn, hj => by
    refine Ev.step (f := fun _ => some (l.map conv)) (fun k => ?_) (Ev.now _)
    simp only [laws_toTreeEdgeS.l0]
    rw [if_neg (by omega)]
    congr 1
    apply List.ext_getElem?
    intro j
    by_cases h : j < n
    · exact hj j h
    · rw [List.getElem?_eq_none (by omega), List.getElem?_eq_none (by simp; omega)]
  | d + 1, n, x, hx, hn, hj => by
    have hlt : n < l.length := by omega
    refine Ev.step (f := fun k => laws_toTreeEdgeS.l0 k l (x.set n (conv l[n])) ((n + 1 : Nat) : Int)) (fun k => ?_) (toEdges_loop l hl d (n + 1) (x.set n (conv l[n])) (by simpa using hx) (by omega) ?_)
    · simp only [laws_toTreeEdgeS.l0, laws_toTreeEdge.f, Option.bind_some]
      rw [if_pos (by omega), if_pos (by omega), if_pos (by omega), w64 (by omega) (by omega), rd104 l n hlt]
      rfl
    · intro j hj'
      by_cases h : j = n
      · subst h; simp [hx, hlt]
      · rw [List.getElem?_set_ne (by omega)]; exact hj j (by omega)

theorem toEdges (l : List S96) (hl : l.length ≤ 1048576) : Ev (fun k => laws_toTreeEdgeS.f k l) (l.map conv) := by
  refine Ev.congr (f := fun k => laws_toTreeEdgeS.l0 k l (List.replicate l.length z75) ((0 : Nat) : Int)) (fun k => ?_) (toEdges_loop l hl l.length 0 _ (by simp) (by omega) (fun j h => absurd h (Nat.not_lt_zero _)))
  unfold laws_toTreeEdgeS.f
  rw [if_pos (by omega), if_pos (by simp; omega)]
  rfl

theorem toTree (a : Int) (l : List S96) (hl : l.length ≤ 1048576) : Ev (fun k => laws_toTree.f k a l) (a, l.map conv) := by
  unfold laws_toTree.f
  exact Ev.bind (toEdges l hl) (Ev.now _)

theorem szTree (a : Int) (l : List S96) (n : Int) (hl : l.length ≤ maxLen) (h0 : 0 ≤ n) (h1 : n ≤ 1048576) :
    (n < l.length ∧ laws_szTree.f a l n = some (-1)) ∨ ((l.length : Int) ≤ n ∧ laws_szTree.f a l n = some (n - l.length)) := by
  have hm : maxLen ≤ 9223372036854775807 := by unfold maxLen; omega
  unfold laws_szTree.f laws_szTreeEdgeS.f
  rw [w64 (by omega) (by omega)]
  by_cases h : n < l.length
  · left; refine ⟨h, ?_⟩; rw [if_pos (by omega)]; simp
  · right; refine ⟨by omega, ?_⟩; rw [if_neg (by omega)]; simp only [Option.bind_some]; rw [if_neg (by omega)]

theorem eqEdges_refl_loop (l : List S75) (hl : l.length ≤ 1048576) : ∀ (d n : Nat), n + d = l.length → Ev (fun k => laws_eqTreeEdgeS.l0 k l l (n : Int)) true
  | 0, n, hn => by
    refine Ev.step (f := fun _ => some true) (fun k => ?_) (Ev.now _)
    simp only [laws_eqTreeEdgeS.l0]
    rw [if_neg (by omega)]
  | d + 1, n, hn => by
    refine Ev.step (f := fun k => laws_eqTreeEdgeS.l0 k l l ((n + 1 : Nat) : Int)) (fun k => ?_) (eqEdges_refl_loop l hl d (n + 1) (by omega))
    simp only [laws_eqTreeEdgeS.l0, laws_eqTreeEdge.f, if_true, Option.bind_some]
    rw [if_pos (by omega), if_pos (by omega), if_pos (by omega), w64 (by omega) (by omega)]
    rfl

theorem eqTree_refl (a : Int) (l : List S75) (hl : l.length ≤ 1048576) : Ev (fun k => laws_eqTree.f k a l a l) true := by
  unfold laws_eqTree.f
  simp only [if_true]
  refine Ev.bind (a := true) ?_ (Ev.now _)
  unfold laws_eqTreeEdgeS.f
  simp only [if_true]
  exact eqEdges_refl_loop l hl l.length 0 (by omega)

end Go.Proofs.YtmckbecegiegaaaAT
