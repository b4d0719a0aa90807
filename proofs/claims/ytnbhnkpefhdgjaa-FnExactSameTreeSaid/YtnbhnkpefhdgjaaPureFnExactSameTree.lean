/- The law FnExactSameTree, over numbers and lists alone. -/
import Derived.Test.YtnbhnkpefhdgjaaStmtFnExactSameTree
import Derived.Test.YtnbhnkpefhdgjaaMEv
namespace Go.Proofs.Ytnbhnkpefhdgjaa.Pure
open Go.RowKit Go.Proofs.Ytnbhnkpefhdgjaa.G Go.Proofs.YtnbhnkpefhdgjaaW.PrintWords Go.Proofs.YtnbhnkpefhdgjaaW.PrintLast Go.Proofs.YtnbhnkpefhdgjaaM

theorem ext71 {a b : S71} (h0 : a.f0 = b.f0) (h1 : a.f1 = b.f1) (h2 : a.f2 = b.f2) : a = b := by
  cases a; cases b; simp_all

def conv (x : S104) : S71 := ⟨x.f0, x.f1, x.f2⟩

theorem rd104 (l : List S104) (n : Nat) (h : n < l.length) : rd_T104 l (n : Int) = l[n] := by
  simp [rd_T104, h]
theorem rd71 (l : List S71) (n : Nat) (h : n < l.length) : rd_T71 l (n : Int) = l[n] := by
  simp [rd_T71, h]

theorem toEdges_loop (l : List S104) (hl : l.length ≤ 1048576) : ∀ (d n : Nat) (x : List S71), x.length = l.length → n + d = l.length → (∀ j, j < n → x[j]? = (l.map conv)[j]?) →
    Ev (fun k => laws_toTreeEdgeS.l0 k l x (n : Int)) (l.map conv)
  | 0, n, x, hx, hn, hj => by
    refine Ev.step (f := fun _ => some (l.map conv)) (fun k => ?_) (Ev.now _)
    simp only [laws_toTreeEdgeS.l0]
    rw [if_neg (by omega)]
    congr 1
    apply List.ext_getElem?
    intro j
    by_cases h : j < n
    · exact hj j h
    · rw [List.getElem?_eq_none (by omega), List.getElem?_eq_none (by simp; omega)]
  | d + 1, n, x, hx, hn, hj => by
    have hlt : n < l.length := by omega
    refine Ev.step (f := fun k => laws_toTreeEdgeS.l0 k l (x.set n (conv l[n])) ((n + 1 : Nat) : Int)) (fun k => ?_) (toEdges_loop l hl d (n + 1) (x.set n (conv l[n])) (by simpa using hx) (by omega) ?_)
    · simp only [laws_toTreeEdgeS.l0, laws_toTreeEdge.f, Option.bind_some]
      rw [if_pos (by omega), if_pos (by omega), if_pos (by omega), w64 (by omega) (by omega), rd104 l n hlt]
      rfl
    · intro j hj'
      by_cases h : j = n
      · subst h; simp [hx, hlt]
      · rw [List.getElem?_set_ne (by omega)]; exact hj j (by omega)

theorem toEdges (l : List S104) (hl : l.length ≤ 1048576) : Ev (fun k => laws_toTreeEdgeS.f k l) (l.map conv) := by
  refine Ev.congr (f := fun k => laws_toTreeEdgeS.l0 k l (List.replicate l.length z71) ((0 : Nat) : Int)) (fun k => ?_) (toEdges_loop l hl l.length 0 _ (by simp) (by omega) (fun j h => absurd h (Nat.not_lt_zero _)))
  unfold laws_toTreeEdgeS.f
  rw [if_pos (by omega), if_pos (by simp; omega)]
  rfl

theorem toTree (a : Int) (l : List S104) (hl : l.length ≤ 1048576) : Ev (fun k => laws_toTree.f k a l) (a, l.map conv) := by
  unfold laws_toTree.f
  exact Ev.bind (toEdges l hl) (Ev.now _)

theorem szTree (a : Int) (l : List S104) (n : Int) (hl : l.length ≤ maxLen) (h0 : 0 ≤ n) (h1 : n ≤ 1048576) :
    (n < l.length ∧ laws_szTree.f a l n = some (-1)) ∨ ((l.length : Int) ≤ n ∧ laws_szTree.f a l n = some (n - l.length)) := by
  have hm : maxLen ≤ 9223372036854775807 := by unfold maxLen; omega
  unfold laws_szTree.f laws_szTreeEdgeS.f
  rw [w64 (by omega) (by omega)]
  by_cases h : n < l.length
  · left; refine ⟨h, ?_⟩; rw [if_pos (by omega)]; simp
  · right; refine ⟨by omega, ?_⟩; rw [if_neg (by omega)]; simp only [Option.bind_some]; rw [if_neg (by omega)]

theorem eqEdges_refl_loop (l : List S71) (hl : l.length ≤ 1048576) : ∀ (d n : Nat), n + d = l.length → Ev (fun k => laws_eqTreeEdgeS.l0 k l l (n : Int)) true
  | 0, n, hn => by
    refine Ev.step (f := fun _ => some true) (fun k => ?_) (Ev.now _)
    simp only [laws_eqTreeEdgeS.l0]
    rw [if_neg (by omega)]
  | d + 1, n, hn => by
    refine Ev.step (f := fun k => laws_eqTreeEdgeS.l0 k l l ((n + 1 : Nat) : Int)) (fun k => ?_) (eqEdges_refl_loop l hl d (n + 1) (by omega))
    simp only [laws_eqTreeEdgeS.l0, laws_eqTreeEdge.f, if_true, Option.bind_some]
    rw [if_pos (by omega), if_pos (by omega), if_pos (by omega), w64 (by omega) (by omega)]
    rfl

theorem eqTree_refl (a : Int) (l : List S71) (hl : l.length ≤ 1048576) : Ev (fun k => laws_eqTree.f k a l a l) true := by
  unfold laws_eqTree.f
  simp only [if_true]
  refine Ev.bind (a := true) ?_ (Ev.now _)
  unfold laws_eqTreeEdgeS.f
  simp only [if_true]
  exact eqEdges_refl_loop l hl l.length 0 (by omega)

def difB (a b : S71) : Bool := (!((a.f0) == (b.f0)) || (!((a.f1) == (b.f1)) || (!((a.f2) == (b.f2)))))

/-- Both programs' loop: what comes out from place n on. -/
def sameFrom (l m : List S71) : Nat → Nat → Bool
  | 0, _ => true
  | d + 1, n => if difB (rd_T71 l (n : Int)) (rd_T71 m (n : Int)) = true then false else sameFrom l m d (n + 1)

theorem spec_loop (a b : Int) (l m : List S71) (hl : l.length ≤ 1048576) (he : l.length = m.length) : ∀ (d n : Nat), n + d = l.length →
    Ev (fun k => spec_SameTree.l0 k (n : Int) a l b m) (sameFrom l m d n)
  | 0, n, hn => by
    refine Ev.step (f := fun _ => some true) (fun k => ?_) (Ev.now _)
    simp only [spec_SameTree.l0]
    rw [if_neg (by omega)]
  | d + 1, n, hn => by
    by_cases h : difB (rd_T71 l (n : Int)) (rd_T71 m (n : Int)) = true
    · refine Ev.step (f := fun _ => some false) (fun k => ?_) (by simp only [sameFrom, h, if_true]; exact Ev.now _)
      unfold difB at h
      simp only [spec_SameTree.l0]
      rw [if_pos (by omega), if_pos (by omega), if_pos (by omega), if_pos h]
    · refine Ev.step (f := fun k => spec_SameTree.l0 k ((n + 1 : Nat) : Int) a l b m) (fun k => ?_) (by simp only [sameFrom, h]; exact spec_loop a b l m hl he d (n + 1) (by omega))
      unfold difB at h
      simp only [spec_SameTree.l0]
      rw [if_pos (by omega), if_pos (by omega), if_pos (by omega), if_neg h, w64 (by omega) (by omega)]
      rfl

theorem impl_loop (l m : List S71) (hl : l.length ≤ 1048576) (he : l.length = m.length) : ∀ (d n : Nat), n + d = l.length →
    Ev (fun k => impl_TreeEdge.l0 k l m (l.length : Int) (n : Int)) (sameFrom l m d n)
  | 0, n, hn => by
    refine Ev.step (f := fun _ => some true) (fun k => ?_) (Ev.now _)
    simp only [impl_TreeEdge.l0]
    rw [if_neg (by omega)]
  | d + 1, n, hn => by
    by_cases h : difB (rd_T71 l (n : Int)) (rd_T71 m (n : Int)) = true
    · refine Ev.step (f := fun _ => some false) (fun k => ?_) (by simp only [sameFrom, h, if_true]; exact Ev.now _)
      unfold difB at h
      simp only [impl_TreeEdge.l0]
      rw [if_pos (by omega), if_pos (by omega), if_pos (by omega), if_pos (by omega), if_pos h]
    · refine Ev.step (f := fun k => impl_TreeEdge.l0 k l m (l.length : Int) ((n + 1 : Nat) : Int)) (fun k => ?_) (by simp only [sameFrom, h]; exact impl_loop l m hl he d (n + 1) (by omega))
      unfold difB at h
      simp only [impl_TreeEdge.l0]
      rw [if_pos (by omega), if_pos (by omega), if_pos (by omega), if_pos (by omega), if_neg h, w64 (by omega) (by omega)]
      rfl

theorem same_both (a b : Int) (l m : List S71) (hl : l.length ≤ 1048576) : ∃ r, Ev (fun k => spec_SameTree.f k a l b m) r ∧ Ev (fun k => impl_SameTree.f k a l b m) r := by
  by_cases h : a = b
  · by_cases he : l.length = m.length
    · refine ⟨sameFrom l m l.length 0, ?_, ?_⟩
      · unfold spec_SameTree.f
        simp only [if_pos h]
        refine Ev.step (f := fun k => spec_SameTree.l0 k ((0 : Nat) : Int) a l b m) (fun k => ?_) (spec_loop a b l m hl he l.length 0 (by omega))
        simp only [spec_SameTree.j0]
        rw [if_neg (by simp [he])]
        rfl
      · unfold impl_SameTree.f
        simp only [if_pos h]
        refine Ev.bind ?_ (Ev.now _)
        unfold impl_TreeEdge.f
        simp only [if_pos (show (l.length : Int) = (m.length : Int) by omega)]
        exact impl_loop l m hl he l.length 0 (by omega)
    · refine ⟨false, ?_, ?_⟩
      · unfold spec_SameTree.f
        simp only [if_pos h]
        refine Ev.step (f := fun _ => some false) (fun k => ?_) (Ev.now _)
        simp only [spec_SameTree.j0]
        rw [if_pos (by simp; omega)]
      · unfold impl_SameTree.f
        simp only [if_pos h]
        refine Ev.bind ?_ (Ev.now _)
        unfold impl_TreeEdge.f
        simp only [if_neg (show ¬ (l.length : Int) = (m.length : Int) by omega)]
        exact Ev.now _
  · refine ⟨false, ?_, ?_⟩
    · unfold spec_SameTree.f
      simp only [if_neg h]
      refine Ev.step (f := fun _ => some false) (fun k => ?_) (Ev.now _)
      simp only [spec_SameTree.j0, if_true]
    · unfold impl_SameTree.f
      simp only [if_neg h]
      exact Ev.now _

theorem FnExactSameTree : laws_FnExactSameTree.Pure := by
  intro x0 x1 ⟨_, h0, _⟩ ⟨_, h1, _⟩
  unfold laws_FnExactSameTree.f
  refine Ev.rounds ?_
  rcases szTree x0.f0 x0.f1 1048576 h0 (by omega) (by omega) with ⟨_, e⟩ | ⟨g0, e⟩
  · exact ev_bindc e (ev_pos (by omega) (Ev.now _))
  refine ev_bindc e (ev_neg (by omega) ?_)
  rcases szTree x1.f0 x1.f1 (1048576 - x0.f1.length) h1 (by omega) (by omega) with ⟨_, e⟩ | ⟨g1, e⟩
  · exact ev_bindc e (ev_pos (by omega) (Ev.now _))
  refine ev_bindc e (ev_neg (by omega) ?_)
  have T0 := toTree x0.f0 x0.f1 (by omega)
  have T1 := toTree x1.f0 x1.f1 (by omega)
  obtain ⟨r, hs, hi⟩ := same_both x0.f0 x1.f0 (x0.f1.map conv) (x1.f1.map conv) (by simp; omega)
  refine Ev.bind T0 (Ev.bind T1 (Ev.bind hs (Ev.bind T0 (Ev.bind T1 (Ev.bind hi (ev_neg (by simp) ?_))))))
  refine Ev.bind T0 (Ev.bind (eqTree_refl _ _ (by simp; omega)) (ev_pos rfl ?_))
  exact Ev.bind T1 (Ev.bind (eqTree_refl _ _ (by simp; omega)) (ev_pos rfl (Ev.now _)))

end Go.Proofs.Ytnbhnkpefhdgjaa.Pure
