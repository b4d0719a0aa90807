/- Both programs find the same packings of a tree's leaves valid. -/
import Derived.Test.YtnbhnkpefhdgjaaITreeDist
import Derived.Test.YtnbhnkpefhdgjaaIx7
import Derived.Test.YtnbhnkpefhdgjaaIx12
import Derived.Test.YtnbhnkpefhdgjaaIx11
import Derived.Test.YtnbhnkpefhdgjaaIx2
namespace Go.Proofs.YtnbhnkpefhdgjaaIT
open Go.RowKit Go.Proofs.Ytnbhnkpefhdgjaa.I Go.Proofs.YtnbhnkpefhdgjaaW.PrintWords Go.Proofs.YtnbhnkpefhdgjaaM

theorem rd68 (l : List S68) (n : Nat) (h : n < l.length) : rd_T68 l (n : Int) = l[n] := by simp [rd_T68, h]
theorem rd68_take (l : List S68) (m j : Nat) (h : j < m) : rd_T68 (l.take m) (j : Int) = rd_T68 l (j : Int) := by
  simp only [rd_T68, Int.toNat_natCast, List.getD_eq_getElem?_getD, List.getElem?_take, h, if_true]

def sq (a b : S68) : Int := wrap64 ((wrap64 ((wrap64 (a.f0 - b.f0)) * (wrap64 (a.f0 - b.f0)))) + (wrap64 ((wrap64 (a.f1 - b.f1)) * (wrap64 (a.f1 - b.f1)))))
def inb (s : Int) (a : S68) : Bool := (decide (0 ≤ a.f0) && decide (a.f0 ≤ s)) && (decide (0 ≤ a.f1) && decide (a.f1 ≤ s))

theorem sq_symm (s : Int) (hs : s ≤ 40) (a b : S68) (ha : inb s a = true) (hb : inb s b = true) : sq a b = sq b a := by
  unfold inb at ha hb
  simp only [Bool.and_eq_true, decide_eq_true_iff] at ha hb
  unfold sq
  rw [w64 (i := a.f0 - b.f0) (by omega) (by omega), w64 (i := a.f1 - b.f1) (by omega) (by omega), w64 (i := b.f0 - a.f0) (by omega) (by omega), w64 (i := b.f1 - a.f1) (by omega) (by omega)]
  rw [← Int.neg_sub b.f0 a.f0, ← Int.neg_sub b.f1 a.f1, Int.neg_mul_neg, Int.neg_mul_neg]

/-- Is a spot far enough from those ahead of it, from place j on? -/
def rowOk (D : List (List Int)) (S : List S68) (i : Nat) : Nat → Nat → Bool
  | 0, _ => true
  | d + 1, j => if sq (rd_T68 S (i : Int)) (rd_T68 S (j : Int)) < wrap64 (rd (rd_L5 D (i : Int)) (j : Int) * rd (rd_L5 D (i : Int)) (j : Int)) then false else rowOk D S i d (j + 1)

def packFrom (s : Int) (D : List (List Int)) (S : List S68) : Nat → Nat → Bool
  | 0, _ => true
  | d + 1, i => if inb s (rd_T68 S (i : Int)) = true then (if rowOk D S i i 0 = true then packFrom s D S d (i + 1) else false) else false

theorem specRow_ok (s : Int) (D : List (List Int)) (S : List S68) (hS : S.length = D.length) (hl : S.length ≤ 16) (hD : ∀ i : Nat, i < D.length → (rd_L5 D (i : Int)).length = D.length) (i : Nat) (hi : i < S.length) (R : Bool) : ∀ (d j : Nat), j + d = i →
    (rowOk D S i d j = false → R = false) → (rowOk D S i d j = true → Ev (fun k => spec_l30Packs.l0 k s S D ((i + 1 : Nat) : Int)) R) →
    Ev (fun k => spec_l30Packs.l1 k s S D (i : Int) (j : Int)) R
  | 0, j, hj, h0, h1 => by
    refine ev_succ ?_
    simp only [spec_l30Packs.l1, wnext i (by omega)]
    exact ev_neg (by omega) (h1 rfl)
  | d + 1, j, hj, h0, h1 => by
    have hr := hD i (by omega)
    refine ev_succ ?_
    simp only [spec_l30Packs.l1, spec_l30Square.f, Option.bind_some, wnext j (by omega)]
    refine ev_pos (by omega) (ev_pos (by omega) (ev_pos (by omega) (ev_pos (by omega) (ev_pos (by omega) (ev_pos (by omega) (ev_pos (by omega) ?_))))))
    by_cases q : sq (rd_T68 S (i : Int)) (rd_T68 S (j : Int)) < wrap64 (rd (rd_L5 D (i : Int)) (j : Int) * rd (rd_L5 D (i : Int)) (j : Int))
    · refine ev_pos q ?_
      simp only [rowOk, if_pos q] at h0
      rw [h0 trivial]
      exact Ev.now _
    · refine ev_neg q ?_
      simp only [rowOk, if_neg q] at h0 h1
      exact specRow_ok s D S hS hl hD i hi R d (j + 1) (by omega) h0 h1

theorem specPacks_loop (s : Int) (D : List (List Int)) (S : List S68) (hS : S.length = D.length) (hl : S.length ≤ 16) (hD : ∀ i : Nat, i < D.length → (rd_L5 D (i : Int)).length = D.length) : ∀ (d i : Nat), i + d = S.length →
    Ev (fun k => spec_l30Packs.l0 k s S D (i : Int)) (packFrom s D S d i)
  | 0, i, hi => by
    refine ev_succ ?_
    simp only [spec_l30Packs.l0, packFrom]
    exact ev_neg (by omega) (Ev.now _)
  | d + 1, i, hi => by
    refine ev_succ ?_
    simp only [spec_l30Packs.l0, in_iff, Option.bind_some]
    refine ev_pos (by omega) (ev_pos (by omega) ?_)
    have row : Ev (fun k => spec_l30Packs.l1 k s S D (i : Int) 0) (if rowOk D S i i 0 = true then packFrom s D S d (i + 1) else false) := by
      refine specRow_ok s D S hS hl hD i (by omega) _ i 0 (by omega) ?_ ?_
      · intro e; rw [e]; simp
      · intro e; rw [if_pos e]; exact specPacks_loop s D S hS hl hD d (i + 1) (by omega)
    simp only [packFrom]
    generalize rd_T68 S (i : Int) = a
    by_cases c1 : (decide (0 ≤ a.f0) && decide (a.f0 ≤ s)) = true
    · refine ev_pos c1 (ev_succ ?_)
      by_cases c2 : (decide (0 ≤ a.f1) && decide (a.f1 ≤ s)) = true
      · have hi : inb s a = true := by unfold inb; rw [c1, c2]; rfl
        simp only [spec_l30Packs.j1, c2, Bool.not_true, Bool.false_eq_true, if_false, hi, if_true]
        exact row
      · have c2' := Bool.eq_false_iff.2 c2
        have hi : inb s a = false := by unfold inb; rw [c1, c2']; rfl
        simp only [spec_l30Packs.j1, c2', Bool.not_false, Bool.false_eq_true, if_false, hi, if_true]
        exact Ev.now _
    · have c1' := Bool.eq_false_iff.2 c1
      have hi : inb s a = false := by unfold inb; rw [c1']; rfl
      refine ev_neg c1 (ev_succ ?_)
      simp only [spec_l30Packs.j1, Bool.false_eq_true, if_false, hi, if_true]
      exact Ev.now _

theorem apart_loop (s : Int) (hs : s ≤ 40) (D : List (List Int)) (S : List S68) (hS : S.length = D.length) (hl : S.length ≤ 16) (hD : ∀ i : Nat, i < D.length → (rd_L5 D (i : Int)).length = D.length) (i : Nat) (hi : i < S.length)
    (hin : ∀ j : Nat, j ≤ i → inb s (rd_T68 S (j : Int)) = true) (x1 y : List S68) (hx : x1.length = i + 1) (hy : y.length = i) (ex : rd_T68 x1 (i : Int) = rd_T68 S (i : Int)) (ey : ∀ j : Nat, j < i → rd_T68 y (j : Int) = rd_T68 S (j : Int)) : ∀ (d j : Nat), j + d = i →
    Ev (fun k => impl_isApart.l0 k D x1 (i : Int) y (i : Int) (j : Int)) (rowOk D S i d j)
  | 0, j, hj => by
    refine ev_succ ?_
    simp only [impl_isApart.l0, rowOk]
    exact ev_neg (by omega) (Ev.now _)
  | d + 1, j, hj => by
    have hr := hD i (by omega)
    refine ev_succ ?_
    simp only [impl_isApart.l0, impl_Spot_square.f, Option.bind_some, wnext j (by omega), ex, ey j (by omega)]
    refine ev_pos (by omega) (ev_pos (by omega) (ev_pos (by omega) (ev_pos (by omega) (ev_pos (by omega) (ev_pos (by omega) (ev_pos (by omega) ?_))))))
    have e : sq (rd_T68 S (j : Int)) (rd_T68 S (i : Int)) = sq (rd_T68 S (i : Int)) (rd_T68 S (j : Int)) := sq_symm s hs _ _ (hin j (by omega)) (hin i (by omega))
    by_cases q : sq (rd_T68 S (i : Int)) (rd_T68 S (j : Int)) < wrap64 (rd (rd_L5 D (i : Int)) (j : Int) * rd (rd_L5 D (i : Int)) (j : Int))
    · refine ev_pos (by rw [← e] at q; exact q) ?_
      simp only [rowOk, if_pos q]
      exact Ev.now _
    · refine ev_neg (by rw [← e] at q; exact q) ?_
      simp only [rowOk, if_neg q]
      exact apart_loop s hs D S hS hl hD i hi hin x1 y hx hy ex ey d (j + 1) (by omega)

theorem apart_ev (s : Int) (hs : s ≤ 40) (D : List (List Int)) (S : List S68) (hS : S.length = D.length) (hl : S.length ≤ 16) (hD : ∀ i : Nat, i < D.length → (rd_L5 D (i : Int)).length = D.length) (i : Nat) (hi : i < S.length)
    (hin : ∀ j : Nat, j ≤ i → inb s (rd_T68 S (j : Int)) = true) : Ev (fun k => impl_isApart.f k D (S.take (i + 1))) (rowOk D S i i 0) := by
  have hx : (S.take (i + 1)).length = i + 1 := by simp; omega
  have hw : wrap64 (((i + 1 : Nat) : Int) - 1) = (i : Int) := by rw [w64 (by omega) (by omega)]; omega
  unfold impl_isApart.f
  rw [hx, hw]
  refine ev_pos (by omega) (ev_pos (by omega) ?_)
  simp only [Option.bind_some, Int.toNat_natCast]
  have hy : ((S.take (i + 1)).take i).length = i := by simp; omega
  rw [hy]
  refine apart_loop s hs D S hS hl hD i hi hin _ _ hx hy (rd68_take S (i + 1) i (by omega)) (fun j hj => ?_) i 0 (by omega)
  rw [rd68_take _ i j hj, rd68_take S (i + 1) j (by omega)]

theorem implPacks_loop (s : Int) (hs : s ≤ 40) (D : List (List Int)) (S : List S68) (hS : S.length = D.length) (hl : S.length ≤ 16) (hD : ∀ i : Nat, i < D.length → (rd_L5 D (i : Int)).length = D.length) : ∀ (d i : Nat), i + d = S.length →
    (∀ j : Nat, j < i → inb s (rd_T68 S (j : Int)) = true) → Ev (fun k => impl_ValidPacking.l0 k s S D S (S.length : Int) (i : Int)) (packFrom s D S d i)
  | 0, i, hi, hin => by
    refine ev_succ ?_
    simp only [impl_ValidPacking.l0, packFrom]
    exact ev_neg (by omega) (Ev.now _)
  | d + 1, i, hi, hin => by
    refine ev_succ ?_
    simp only [impl_ValidPacking.l0, within_iff, Option.bind_some, wnext i (by omega), Int.toNat_natCast]
    refine ev_pos (by omega) (ev_pos (by omega) (ev_pos (by omega) ?_))
    have go : inb s (rd_T68 S (i : Int)) = true → Ev (fun k => (impl_isApart.f k D (S.take (i + 1))).bind fun t543 => (if t543 = true then (impl_ValidPacking.l0 k s S D S (S.length : Int) ((i + 1 : Nat) : Int)) else (some false))) (if rowOk D S i i 0 = true then packFrom s D S d (i + 1) else false) := by
      intro hi'
      have hin' : ∀ j : Nat, j ≤ i → inb s (rd_T68 S (j : Int)) = true := by
        intro j hj
        by_cases e : j = i
        · rw [e]; exact hi'
        · exact hin j (by omega)
      refine Ev.bind (apart_ev s hs D S hS hl hD i (by omega) hin') ?_
      by_cases q : rowOk D S i i 0 = true
      · rw [if_pos q]; exact ev_pos q (implPacks_loop s hs D S hS hl hD d (i + 1) (by omega) (fun j hj => hin' j (by omega)))
      · rw [if_neg q]; exact ev_neg q (Ev.now _)
    simp only [packFrom]
    generalize rd_T68 S (i : Int) = a at *
    by_cases c1 : (decide (0 ≤ a.f0) && decide (a.f0 ≤ s)) = true
    · refine ev_pos c1 ?_
      by_cases c2 : (decide (0 ≤ a.f1) && decide (a.f1 ≤ s)) = true
      · have hi : inb s a = true := by unfold inb; rw [c1, c2]; rfl
        refine ev_pos c2 (ev_pos (by omega) (ev_pos (by omega) ?_))
        simp only [hi, if_true]
        exact go hi
      · have c2' := Bool.eq_false_iff.2 c2
        have hi : inb s a = false := by unfold inb; rw [c1, c2']; rfl
        refine ev_neg c2 ?_
        simp only [hi, Bool.false_eq_true, if_false]
        exact Ev.now _
    · have c1' := Bool.eq_false_iff.2 c1
      have hi : inb s a = false := by unfold inb; rw [c1']; rfl
      refine ev_neg c1 ?_
      simp only [hi, Bool.false_eq_true, if_false]
      exact Ev.now _

def vP (a : Int) (L : List S71) (s : Int) (S : List S68) : Bool := vT a L && ((decide (1 ≤ s) && decide (s ≤ 40)) && (decide (S.length = (leavesL a.toNat L).length) && packFrom s (distOf a.toNat L (leavesL a.toNat L)) S S.length 0))

theorem spec_packs (n : Nat) (hn : n ≤ 16) (L : List S71) (hl : L.length ≤ 1048576) (hL : ∀ e ∈ L, GE n e) (s : Int) (S : List S68) (hS : S.length ≤ 1048576) :
    Ev (fun k => spec_l30Packs.f k (n : Int) L s S) (decide (S.length = (leavesL n L).length) && packFrom s (distOf n L (leavesL n L)) S S.length 0) := by
  have h1 := leavesL_len n L
  have h2 := distOf_len n L (leavesL n L)
  unfold spec_l30Packs.f
  refine Ev.bind (spec_dists n hn L hl hL) ?_
  by_cases q : S.length = (leavesL n L).length
  · refine ev_pos (by omega) ?_
    simp only [q, decide_true, Bool.true_and]
    rw [← q]
    exact specPacks_loop s _ S (by omega) (by omega) (fun i hi => by rw [h2] at hi ⊢; exact distOf_row n L _ i hi) S.length 0 (by omega)
  · refine ev_neg (by omega) ?_
    simp only [q, decide_false, Bool.false_and]
    exact Ev.now _

theorem spec_valid (a : Int) (L : List S71) (hl : L.length ≤ 1048576) (s : Int) (S : List S68) (hS : S.length ≤ 1048576) : Ev (fun k => (spec_l30Ok.f k a L).bind fun t481 => (if t481 = true then ((spec_l00In.f s 1 40).bind fun t482 => (if t482 = true then ((spec_l30Packs.f k a L s S).bind fun t483 => (some t483)) else (some false))) else (some false))) (vP a L s S) := by
  refine Ev.bind (spec_ok a L hl) ?_
  unfold vP
  cases h : vT a L with
  | false => simp only [Bool.false_and]; exact ev_neg (by simp) (Ev.now _)
  | true =>
    obtain ⟨n, rfl, h0, h1, _, hL, _⟩ := vT_out h
    refine ev_pos rfl (ev_bindc (in_iff s 1 40) ?_)
    simp only [Bool.true_and, Int.toNat_natCast]
    cases q : (decide (1 ≤ s) && decide (s ≤ 40)) with
    | false => simp only [Bool.false_and]; exact ev_neg (by simp) (Ev.now _)
    | true =>
      refine ev_pos rfl ?_
      simp only [Bool.true_and]
      exact Ev.bind (spec_packs n h1 L hl hL s S hS) (Ev.now _)

theorem impl_valid (a : Int) (L : List S71) (hl : L.length ≤ 1048576) (s : Int) (S : List S68) (hS : S.length ≤ 1048576) : Ev (fun k => impl_ValidPacking.f k a L s S) (vP a L s S) := by
  have bad : Ev (fun k => impl_ValidPacking.j0 k s S true a L) false := by
    refine ev_succ ?_
    simp only [impl_ValidPacking.j0, if_true]
    exact Ev.now _
  unfold impl_ValidPacking.f vP
  refine Ev.bind (impl_ok a L hl) ?_
  cases h : vT a L with
  | false => simp only [Bool.false_and]; exact ev_neg (by simp) bad
  | true =>
    obtain ⟨n, rfl, h0, h1, _, hL, _⟩ := vT_out h
    refine ev_pos rfl ?_
    simp only [impl_isGridSide.f, within_iff, Option.bind_some, Bool.true_and, Int.toNat_natCast]
    cases q : (decide (1 ≤ s) && decide (s ≤ 40)) with
    | false => simp only [Bool.false_and]; exact bad
    | true =>
      simp only [Bool.and_eq_true, decide_eq_true_iff] at q
      have l1 := leavesL_len n L
      have l2 := distOf_len n L (leavesL n L)
      refine ev_succ ?_
      simp only [impl_ValidPacking.j0, Bool.not_true, Bool.true_and, Bool.false_eq_true, if_false]
      refine Ev.bind (impl_dists n h1 L hl hL) ?_
      by_cases e : S.length = (leavesL n L).length
      · refine ev_pos (by omega) ?_
        simp only [e, decide_true, Bool.true_and]
        rw [← e]
        exact implPacks_loop s q.2 _ S (by omega) (by omega) (fun i hi => by rw [l2] at hi ⊢; exact distOf_row n L _ i hi) S.length 0 (by omega) (fun j h => absurd h (Nat.not_lt_zero _))
      · refine ev_neg (by omega) ?_
        simp only [e, decide_false, Bool.false_and]
        exact Ev.now _

/-- Spots handed over by the law. -/
def convS (x : S91) : S68 := ⟨x.f0, x.f1⟩
theorem rd91 (l : List S91) (n : Nat) (h : n < l.length) : rd_T91 l (n : Int) = l[n] := by simp [rd_T91, h]

theorem toSpots_loop (l : List S91) (hl : l.length ≤ 1048576) : ∀ (d n : Nat) (x : List S68), x.length = l.length → n + d = l.length → (∀ j, j < n → x[j]? = (l.map convS)[j]?) →
    Ev (fun k => laws_toSpotS.l0 k l x (n : Int)) (l.map convS)
  | 0, n, x, hx, hn, hj => by
    refine Ev.step (f := fun _ => some (l.map convS)) (fun k => ?_) (Ev.now _)
    simp only [laws_toSpotS.l0]
    rw [if_neg (by omega)]
    congr 1
    apply List.ext_getElem?
    intro j
    by_cases h : j < n
    · exact hj j h
    · rw [List.getElem?_eq_none (by omega), List.getElem?_eq_none (by simp; omega)]
  | d + 1, n, x, hx, hn, hj => by
    have hlt : n < l.length := by omega
    refine Ev.step (f := fun k => laws_toSpotS.l0 k l (x.set n (convS l[n])) ((n + 1 : Nat) : Int)) (fun k => ?_) (toSpots_loop l hl d (n + 1) (x.set n (convS l[n])) (by simpa using hx) (by omega) ?_)
    · simp only [laws_toSpotS.l0, laws_toSpot.f, Option.bind_some]
      rw [if_pos (by omega), if_pos (by omega), if_pos (by omega), w64 (by omega) (by omega), rd91 l n hlt]
      rfl
    · intro j hj'
      by_cases h : j = n
      · subst h; simp [hx, hlt]
      · rw [List.getElem?_set_ne (by omega)]; exact hj j (by omega)

theorem toSpots (l : List S91) (hl : l.length ≤ 1048576) : Ev (fun k => laws_toSpotS.f k l) (l.map convS) := by
  refine Ev.congr (f := fun k => laws_toSpotS.l0 k l (List.replicate l.length z68) ((0 : Nat) : Int)) (fun k => ?_) (toSpots_loop l hl l.length 0 _ (by simp) (by omega) (fun j h => absurd h (Nat.not_lt_zero _)))
  unfold laws_toSpotS.f
  rw [if_pos (by omega), if_pos (by simp; omega)]
  rfl

theorem szSpots (l : List S91) (n : Int) (hl : l.length ≤ maxLen) (h0 : 0 ≤ n) (h1 : n ≤ 1048576) :
    (n < l.length ∧ laws_szSpotS.f l n = some (-1)) ∨ ((l.length : Int) ≤ n ∧ laws_szSpotS.f l n = some (n - l.length)) := by
  have hm : maxLen ≤ 9223372036854775807 := by unfold maxLen; omega
  unfold laws_szSpotS.f
  rw [w64 (by omega) (by omega)]
  by_cases h : n < l.length
  · left; refine ⟨h, ?_⟩; rw [if_pos (by omega)]
  · right; refine ⟨by omega, ?_⟩; rw [if_neg (by omega)]

theorem eqSpots_loop (l : List S68) (hl : l.length ≤ 1048576) : ∀ (d n : Nat), n + d = l.length → Ev (fun k => laws_eqSpotS.l0 k l l (n : Int)) true
  | 0, n, hn => by
    refine ev_succ ?_
    simp only [laws_eqSpotS.l0]
    exact ev_neg (by omega) (Ev.now _)
  | d + 1, n, hn => by
    refine ev_succ ?_
    simp only [laws_eqSpotS.l0, laws_eqSpot.f, if_true, Option.bind_some, wnext n (by omega)]
    exact ev_pos (by omega) (ev_pos (by omega) (ev_pos (by omega) (eqSpots_loop l hl d (n + 1) (by omega))))

theorem eqSpots_refl (l : List S68) (hl : l.length ≤ 1048576) : Ev (fun k => laws_eqSpotS.f k l l) true := by
  unfold laws_eqSpotS.f
  simp only [if_true]
  exact eqSpots_loop l hl l.length 0 (by omega)

end Go.Proofs.YtnbhnkpefhdgjaaIT
