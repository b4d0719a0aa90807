/- Spots of leaves, and how far apart they are. -/
import Derived.Test.YtmckbecegiegaaaATreeDist
import Derived.Test.YtmckbecegiegaaaAx5
namespace Go.Proofs.YtmckbecegiegaaaAT
open Go.RowKit Go.Proofs.Ytmckbecegiegaaa.A Go.Proofs.YtmckbecegiegaaaW.PrintWords Go.Proofs.YtmckbecegiegaaaM

theorem rd68 (l : List S37) (n : Nat) (h : n < l.length) : rd_T37 l (n : Int) = l[n] := by simp [rd_T37, h]
theorem rd68_app (l r : List S37) (j : Nat) (h : j < l.length) : rd_T37 (l ++ r) (j : Int) = rd_T37 l (j : Int) := by
  simp only [rd_T37, Int.toNat_natCast, List.getD_eq_getElem?_getD, List.getElem?_append_left h]
theorem rd68_last (l : List S37) (p : S37) : rd_T37 (l ++ [p]) (l.length : Int) = p := by
  simp [rd_T37]
theorem rd68_take (l : List S37) (m j : Nat) (h : j < m) : rd_T37 (l.take m) (j : Int) = rd_T37 l (j : Int) := by
  simp only [rd_T37, Int.toNat_natCast, List.getD_eq_getElem?_getD, List.getElem?_take, h, if_true]

def sq (a b : S37) : Int := wrap64 ((wrap64 ((wrap64 (a.f0 - b.f0)) * (wrap64 (a.f0 - b.f0)))) + (wrap64 ((wrap64 (a.f1 - b.f1)) * (wrap64 (a.f1 - b.f1)))))
def inb (s : Int) (a : S37) : Bool := (decide (0 ≤ a.f0) && decide (a.f0 ≤ s)) && (decide (0 ≤ a.f1) && decide (a.f1 ≤ s))

theorem sq_symm (s : Int) (hs : s ≤ 40) (a b : S37) (ha : inb s a = true) (hb : inb s b = true) : sq a b = sq b a := by
  unfold inb at ha hb
  simp only [Bool.and_eq_true, decide_eq_true_iff] at ha hb
  unfold sq
  rw [w64 (i := a.f0 - b.f0) (by omega) (by omega), w64 (i := a.f1 - b.f1) (by omega) (by omega), w64 (i := b.f0 - a.f0) (by omega) (by omega), w64 (i := b.f1 - a.f1) (by omega) (by omega)]
  rw [← Int.neg_sub b.f0 a.f0, ← Int.neg_sub b.f1 a.f1, Int.neg_mul_neg, Int.neg_mul_neg]

/-- Is a spot far enough from those ahead of it, from place j on? -/
def rowOk (D : List (List Int)) (S : List S37) (i : Nat) : Nat → Nat → Bool
  | 0, _ => true
  | d + 1, j => if sq (rd_T37 S (i : Int)) (rd_T37 S (j : Int)) < wrap64 (rd (rd_L2 D (i : Int)) (j : Int) * rd (rd_L2 D (i : Int)) (j : Int)) then false else rowOk D S i d (j + 1)

theorem rowOk_ext (D : List (List Int)) (S S' : List S37) (i : Nat) (h : ∀ j : Nat, j ≤ i → rd_T37 S (j : Int) = rd_T37 S' (j : Int)) : ∀ (d j : Nat), j + d = i → rowOk D S i d j = rowOk D S' i d j
  | 0, j, hj => rfl
  | d + 1, j, hj => by
    simp only [rowOk, h i (Nat.le_refl _), h j (by omega), rowOk_ext D S S' i h d (j + 1) (by omega)]

theorem apart_loop (s : Int) (hs : s ≤ 40) (D : List (List Int)) (hl : D.length ≤ 16) (hD : ∀ i : Nat, i < D.length → (rd_L2 D (i : Int)).length = D.length) (i : Nat) (hi : i < D.length) (S : List S37)
    (hin : ∀ j : Nat, j ≤ i → inb s (rd_T37 S (j : Int)) = true) (y : List S37) (hx : S.length = i + 1) (hy : y.length = i) (ey : ∀ j : Nat, j < i → rd_T37 y (j : Int) = rd_T37 S (j : Int)) : ∀ (d j : Nat), j + d = i →
    Ev (fun k => impl_isApart.l0 k D S (i : Int) y (i : Int) (j : Int)) (rowOk D S i d j)
  | 0, j, hj => by
    refine ev_succ ?_
    simp only [impl_isApart.l0, rowOk]
    exact ev_neg (by omega) (Ev.now _)
  | d + 1, j, hj => by
    have hr := hD i (by omega)
    refine ev_succ ?_
    simp only [impl_isApart.l0, impl_Spot_square.f, Option.bind_some, wnext j (by omega), ey j (by omega)]
    refine ev_pos (by omega) (ev_pos (by omega) (ev_pos (by omega) (ev_pos (by omega) (ev_pos (by omega) (ev_pos (by omega) (ev_pos (by omega) ?_))))))
    have e : sq (rd_T37 S (j : Int)) (rd_T37 S (i : Int)) = sq (rd_T37 S (i : Int)) (rd_T37 S (j : Int)) := sq_symm s hs _ _ (hin j (by omega)) (hin i (by omega))
    by_cases q : sq (rd_T37 S (i : Int)) (rd_T37 S (j : Int)) < wrap64 (rd (rd_L2 D (i : Int)) (j : Int) * rd (rd_L2 D (i : Int)) (j : Int))
    · refine ev_pos (by rw [← e] at q; exact q) ?_
      simp only [rowOk, if_pos q]
      exact Ev.now _
    · refine ev_neg (by rw [← e] at q; exact q) ?_
      simp only [rowOk, if_neg q]
      exact apart_loop s hs D hl hD i hi S hin y hx hy ey d (j + 1) (by omega)

/-- The last of some spots: far enough from all others? -/
theorem apart_ev (s : Int) (hs : s ≤ 40) (D : List (List Int)) (hl : D.length ≤ 16) (hD : ∀ i : Nat, i < D.length → (rd_L2 D (i : Int)).length = D.length) (i : Nat) (hi : i < D.length) (S : List S37) (hx : S.length = i + 1)
    (hin : ∀ j : Nat, j ≤ i → inb s (rd_T37 S (j : Int)) = true) : Ev (fun k => impl_isApart.f k D S) (rowOk D S i i 0) := by
  have hw : wrap64 (((i + 1 : Nat) : Int) - 1) = (i : Int) := by rw [w64 (by omega) (by omega)]; omega
  unfold impl_isApart.f
  rw [hx, hw]
  refine ev_pos (by omega) (ev_pos (by omega) ?_)
  simp only [Option.bind_some, Int.toNat_natCast]
  have hy : (S.take i).length = i := by simp; omega
  rw [hy]
  exact apart_loop s hs D hl hD i hi S hin _ hx hy (fun j hj => rd68_take _ i j hj) i 0 (by omega)

end Go.Proofs.YtmckbecegiegaaaAT
