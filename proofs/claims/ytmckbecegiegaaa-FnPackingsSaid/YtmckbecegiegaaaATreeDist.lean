/- The distances between the leaves of a tree: both programs find the same. -/
import Derived.Test.YtmckbecegiegaaaATreeLeaves
import Derived.Test.YtmckbecegiegaaaAx12
import Derived.Test.YtmckbecegiegaaaAx4
namespace Go.Proofs.YtmckbecegiegaaaAT
open Go.RowKit Go.Proofs.Ytmckbecegiegaaa.A Go.Proofs.YtmckbecegiegaaaW.PrintWords Go.Proofs.YtmckbecegiegaaaM

def distRow (n : Nat) (L : List S75) (lv : List Int) (r : Int) : List Int := lv.map (fun x => rd (tab n L r).1 x)
def distOf (n : Nat) (L : List S75) (lv : List Int) : List (List Int) := lv.map (distRow n L lv)

theorem rdI (l : List Int) (i : Nat) (h : i < l.length) : rd l (i : Int) = l[i] := by simp [rd, h]

theorem map_take_next {α : Type} (f : Int → α) (l : List Int) (i : Nat) (h : i < l.length) : (l.take i).map f ++ [f (rd l (i : Int))] = (l.take (i + 1)).map f := by
  rw [List.take_succ_eq_append_getElem h, rdI l i h, List.map_append, List.map_cons, List.map_nil]

theorem specRow (n : Nat) (L : List S75) (lv : List Int) (hlv : lv.length ≤ 16) (hm : ∀ x ∈ lv, 0 ≤ x ∧ x < n) (D : List (List Int)) (i : Nat) (t : List Int) (ht : t.length = n) (R : List (List Int)) : ∀ (d j : Nat), j + d = lv.length →
    Ev (fun k => if D.length < 5864062014805 then (spec_l30Distances.l0 k lv (D ++ [lv.map (fun x => rd t x)]) (wrap64 ((i : Int) + 1)) (n : Int) L) else (none)) R →
    Ev (fun k => spec_l30Distances.l1 k lv D (i : Int) t ((lv.take j).map (fun x => rd t x)) (j : Int) (n : Int) L) R
  | 0, j, hj, h => by
    refine ev_succ ?_
    simp only [spec_l30Distances.l1]
    refine ev_neg (by omega) ?_
    rw [List.take_of_length_le (by omega)]
    exact h
  | d + 1, j, hj, h => by
    have hlt : j < lv.length := by omega
    have hx := hm _ (List.getElem_mem hlt)
    rw [← rdI lv j hlt] at hx
    refine ev_succ ?_
    simp only [spec_l30Distances.l1, wnext j (by omega)]
    refine ev_pos (by omega) (ev_pos (by omega) (ev_pos hx.1 (ev_pos (by omega) (ev_pos (by simp; omega) ?_))))
    rw [map_take_next (fun x => rd t x) lv j hlt]
    exact specRow n L lv hlv hm D i t ht R d (j + 1) (by omega) h

theorem specDist_loop (n : Nat) (hn : n ≤ 16) (L : List S75) (hl : L.length ≤ 1048576) (hL : ∀ e ∈ L, GE n e) (lv : List Int) (hlv : lv.length ≤ 16) (hm : ∀ x ∈ lv, 0 ≤ x ∧ x < n) : ∀ (d i : Nat), i + d = lv.length →
    Ev (fun k => spec_l30Distances.l0 k lv ((lv.take i).map (distRow n L lv)) (i : Int) (n : Int) L) (distOf n L lv)
  | 0, i, hi => by
    refine ev_succ ?_
    simp only [spec_l30Distances.l0]
    refine ev_neg (by omega) ?_
    rw [List.take_of_length_le (by omega)]
    exact Ev.now _
  | d + 1, i, hi => by
    have hlt : i < lv.length := by omega
    have hx := hm _ (List.getElem_mem hlt)
    rw [← rdI lv i hlt] at hx
    refine ev_succ ?_
    simp only [spec_l30Distances.l0]
    refine ev_pos (by omega) (ev_pos (by omega) (Ev.bind (reach_ev n hn L hl (rd lv i) hx.1 hx.2 hL) ?_))
    refine specRow n L lv hlv hm _ i _ (tab_len n L _ hx.1 hx.2 hL) _ lv.length 0 (by omega) ?_
    refine ev_pos (by simp; omega) ?_
    rw [wnext i (by omega)]
    have e := map_take_next (distRow n L lv) lv i hlt
    unfold distRow at e ⊢
    rw [e]
    exact specDist_loop n hn L hl hL lv hlv hm d (i + 1) (by omega)

theorem spec_dists (n : Nat) (hn : n ≤ 16) (L : List S75) (hl : L.length ≤ 1048576) (hL : ∀ e ∈ L, GE n e) : Ev (fun k => spec_l30Distances.f k (n : Int) L) (distOf n L (leavesL n L)) := by
  have h1 := leavesL_len n L
  unfold spec_l30Distances.f
  exact Ev.bind (spec_leaves n hn L hl) (specDist_loop n hn L hl hL _ (by omega) (fun x hx => leavesL_mem hx) (leavesL n L).length 0 (by omega))

theorem chosen_loop (n : Nat) (t : List Int) (ht : t.length = n) (lv : List Int) (hlv : lv.length ≤ 16) (hm : ∀ x ∈ lv, 0 ≤ x ∧ x < n) : ∀ (d j : Nat), j + d = lv.length →
    Ev (fun k => impl_chosen.l0 k t ((lv.take j).map (fun x => rd t x)) lv (lv.length : Int) (j : Int)) (lv.map (fun x => rd t x))
  | 0, j, hj => by
    refine ev_succ ?_
    simp only [impl_chosen.l0]
    refine ev_neg (by omega) ?_
    rw [List.take_of_length_le (by omega)]
    exact Ev.now _
  | d + 1, j, hj => by
    have hlt : j < lv.length := by omega
    have hx := hm _ (List.getElem_mem hlt)
    rw [← rdI lv j hlt] at hx
    refine ev_succ ?_
    simp only [impl_chosen.l0, wnext j (by omega)]
    refine ev_pos (by omega) (ev_pos (by omega) (ev_pos (by omega) (ev_pos hx.1 (ev_pos (by omega) (ev_pos (by simp; omega) ?_)))))
    rw [map_take_next (fun x => rd t x) lv j hlt]
    exact chosen_loop n t ht lv hlv hm d (j + 1) (by omega)

theorem implDist_loop (n : Nat) (hn : n ≤ 16) (L : List S75) (hl : L.length ≤ 1048576) (hL : ∀ e ∈ L, GE n e) (lv : List Int) (hlv : lv.length ≤ 16) (hm : ∀ x ∈ lv, 0 ≤ x ∧ x < n) : ∀ (d i : Nat), i + d = lv.length →
    Ev (fun k => impl_Tree_leafDistances.l0 k lv ((lv.take i).map (distRow n L lv)) lv (lv.length : Int) (i : Int) (n : Int) L) (distOf n L lv)
  | 0, i, hi => by
    refine ev_succ ?_
    simp only [impl_Tree_leafDistances.l0]
    refine ev_neg (by omega) ?_
    rw [List.take_of_length_le (by omega)]
    exact Ev.now _
  | d + 1, i, hi => by
    have hlt : i < lv.length := by omega
    have hx := hm _ (List.getElem_mem hlt)
    rw [← rdI lv i hlt] at hx
    refine ev_succ ?_
    simp only [impl_Tree_leafDistances.l0, wnext i (by omega)]
    refine ev_pos (by omega) (ev_pos (by omega) (ev_pos (by omega) (Ev.bind (far_ev n hn L hl (rd lv i) hx.1 hx.2 hL) ?_)))
    refine Ev.bind (a := distRow n L lv (rd lv i)) ?_ ?_
    · exact chosen_loop n _ (tab_len n L _ hx.1 hx.2 hL) lv hlv hm lv.length 0 (by omega)
    · refine ev_pos (by simp; omega) ?_
      rw [map_take_next (distRow n L lv) lv i hlt]
      exact implDist_loop n hn L hl hL lv hlv hm d (i + 1) (by omega)

theorem impl_dists (n : Nat) (hn : n ≤ 16) (L : List S75) (hl : L.length ≤ 1048576) (hL : ∀ e ∈ L, GE n e) : Ev (fun k => impl_Tree_leafDistances.f k (n : Int) L) (distOf n L (leavesL n L)) := by
  have h1 := leavesL_len n L
  unfold impl_Tree_leafDistances.f
  exact Ev.bind (impl_leaves n hn L hl hL) (implDist_loop n hn L hl hL _ (by omega) (fun x hx => leavesL_mem hx) (leavesL n L).length 0 (by omega))

theorem distOf_len (n : Nat) (L : List S75) (lv : List Int) : (distOf n L lv).length = lv.length := by simp [distOf]
theorem distOf_row (n : Nat) (L : List S75) (lv : List Int) (i : Nat) (h : i < lv.length) : (rd_L2 (distOf n L lv) (i : Int)).length = lv.length := by
  simp [rd_L2, distOf, h, distRow]

end Go.Proofs.YtmckbecegiegaaaAT
