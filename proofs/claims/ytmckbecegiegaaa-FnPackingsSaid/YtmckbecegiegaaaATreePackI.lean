/- Packings and active pairs, as the program finds them. -/
import Derived.Test.YtmckbecegiegaaaATreeFirst
import Derived.Test.YtmckbecegiegaaaAx22
namespace Go.Proofs.YtmckbecegiegaaaAT
open Go.RowKit Go.Proofs.Ytmckbecegiegaaa.A Go.Proofs.YtmckbecegiegaaaW.PrintWords Go.Proofs.YtmckbecegiegaaaM

def packFrom (s : Int) (D : List (List Int)) (S : List S37) : Nat → Nat → Bool
  | 0, _ => true
  | d + 1, i => if inb s (rd_T37 S (i : Int)) = true then (if rowOk D S i i 0 = true then packFrom s D S d (i + 1) else false) else false

theorem packFrom_all (s : Int) (D : List (List Int)) (S : List S37) : ∀ (d i : Nat), (∀ j, i ≤ j → j < i + d → inb s (rd_T37 S (j : Int)) = true ∧ rowOk D S j j 0 = true) → packFrom s D S d i = true
  | 0, i, h => rfl
  | d + 1, i, h => by
    simp only [packFrom, (h i (Nat.le_refl _) (by omega)).1, (h i (Nat.le_refl _) (by omega)).2, if_true]
    exact packFrom_all s D S d (i + 1) (fun j h1 h2 => h j (by omega) (by omega))

theorem implPacks_loop (s : Int) (hs : s ≤ 40) (D : List (List Int)) (S : List S37) (hS : S.length = D.length) (hl : S.length ≤ 16) (hD : ∀ i : Nat, i < D.length → (rd_L2 D (i : Int)).length = D.length) : ∀ (d i : Nat), i + d = S.length →
    (∀ j : Nat, j < i → inb s (rd_T37 S (j : Int)) = true) → Ev (fun k => impl_ValidPacking.l0 k s S D S (S.length : Int) (i : Int)) (packFrom s D S d i)
  | 0, i, hi, hin => by
    refine ev_succ ?_
    simp only [impl_ValidPacking.l0, packFrom]
    exact ev_neg (by omega) (Ev.now _)
  | d + 1, i, hi, hin => by
    refine ev_succ ?_
    simp only [impl_ValidPacking.l0, within_iff, Option.bind_some, wnext i (by omega), Int.toNat_natCast]
    refine ev_pos (by omega) (ev_pos (by omega) (ev_pos (by omega) ?_))
    have go : inb s (rd_T37 S (i : Int)) = true → Ev (fun k => (impl_isApart.f k D (S.take (i + 1))).bind fun t543 => (if t543 = true then (impl_ValidPacking.l0 k s S D S (S.length : Int) ((i + 1 : Nat) : Int)) else (some false))) (if rowOk D S i i 0 = true then packFrom s D S d (i + 1) else false) := by
      intro hi'
      have hin' : ∀ j : Nat, j ≤ i → inb s (rd_T37 S (j : Int)) = true := by
        intro j hj
        by_cases e : j = i
        · rw [e]; exact hi'
        · exact hin j (by omega)
      have A := apart_ev s hs D (by omega) hD i (by omega) (S.take (i + 1)) (by simp; omega) (fun j hj => by rw [rd68_take S (i + 1) j (by omega)]; exact hin' j hj)
      rw [rowOk_ext D (S.take (i + 1)) S i (fun j hj => rd68_take S (i + 1) j (by omega)) i 0 (by omega)] at A
      refine Ev.bind A ?_
      by_cases q : rowOk D S i i 0 = true
      · rw [if_pos q]; exact ev_pos q (implPacks_loop s hs D S hS hl hD d (i + 1) (by omega) (fun j hj => hin' j (by omega)))
      · rw [if_neg q]; exact ev_neg q (Ev.now _)
    simp only [packFrom]
    generalize rd_T37 S (i : Int) = a at *
    by_cases c1 : (decide (0 ≤ a.f0) && decide (a.f0 ≤ s)) = true
    · refine ev_pos c1 ?_
      by_cases c2 : (decide (0 ≤ a.f1) && decide (a.f1 ≤ s)) = true
      · have hi : inb s a = true := by unfold inb; rw [c1, c2]; rfl
        refine ev_pos c2 (ev_pos (by omega) (ev_pos (by omega) ?_))
        simp only [hi, if_true]
        exact go hi
      · have c2' := Bool.eq_false_iff.2 c2
        have hi : inb s a = false := by unfold inb; rw [c1, c2']; rfl
        refine ev_neg c2 ?_
        simp only [hi, Bool.false_eq_true, if_false]
        exact Ev.now _
    · have c1' := Bool.eq_false_iff.2 c1
      have hi : inb s a = false := by unfold inb; rw [c1']; rfl
      refine ev_neg c1 ?_
      simp only [hi, Bool.false_eq_true, if_false]
      exact Ev.now _

def vP (a : Int) (L : List S75) (s : Int) (S : List S37) : Bool := vT a L && ((decide (1 ≤ s) && decide (s ≤ 40)) && (decide (S.length = (leavesL a.toNat L).length) && packFrom s (distOf a.toNat L (leavesL a.toNat L)) S S.length 0))

theorem impl_valid (a : Int) (L : List S75) (hl : L.length ≤ 1048576) (s : Int) (S : List S37) (hS : S.length ≤ 1048576) : Ev (fun k => impl_ValidPacking.f k a L s S) (vP a L s S) := by
  have bad : Ev (fun k => impl_ValidPacking.j0 k s S true a L) false := by
    refine ev_succ ?_
    simp only [impl_ValidPacking.j0, if_true]
    exact Ev.now _
  unfold impl_ValidPacking.f vP
  refine Ev.bind (impl_ok a L hl) ?_
  cases h : vT a L with
  | false => simp only [Bool.false_and]; exact ev_neg (by simp) bad
  | true =>
    obtain ⟨n, rfl, h0, h1, _, hL, _⟩ := vT_out h
    refine ev_pos rfl ?_
    simp only [impl_isGridSide.f, within_iff, Option.bind_some, Bool.true_and, Int.toNat_natCast]
    cases q : (decide (1 ≤ s) && decide (s ≤ 40)) with
    | false => simp only [Bool.false_and]; exact bad
    | true =>
      simp only [Bool.and_eq_true, decide_eq_true_iff] at q
      have l1 := leavesL_len n L
      have l2 := distOf_len n L (leavesL n L)
      refine ev_succ ?_
      simp only [impl_ValidPacking.j0, Bool.not_true, Bool.true_and, Bool.false_eq_true, if_false]
      refine Ev.bind (impl_dists n h1 L hl hL) ?_
      by_cases e : S.length = (leavesL n L).length
      · refine ev_pos (by omega) ?_
        simp only [e, decide_true, Bool.true_and]
        rw [← e]
        exact implPacks_loop s q.2 _ S (by omega) (by omega) (fun i hi => by rw [l2] at hi ⊢; exact distOf_row n L _ i hi) S.length 0 (by omega) (fun j h => absurd h (Nat.not_lt_zero _))
      · refine ev_neg (by omega) ?_
        simp only [e, decide_false, Bool.false_and]
        exact Ev.now _

/-- Pairs of leaves at their exact distance. -/
def rowP (D : List (List Int)) (S : List S37) (lv : List Int) (i : Nat) : Nat → Nat → List S63 → List S63
  | 0, _, acc => acc
  | d + 1, j, acc => if sq (rd_T37 S (i : Int)) (rd_T37 S (j : Int)) = wrap64 (rd (rd_L2 D (i : Int)) (j : Int) * rd (rd_L2 D (i : Int)) (j : Int)) then rowP D S lv i d (j + 1) (acc ++ [⟨rd lv i, rd lv j⟩]) else rowP D S lv i d (j + 1) acc

theorem rowP_len (D : List (List Int)) (S : List S37) (lv : List Int) (i : Nat) : ∀ (d j : Nat) (acc : List S63), (rowP D S lv i d j acc).length ≤ acc.length + d
  | 0, j, acc => by simp [rowP]
  | d + 1, j, acc => by
    unfold rowP
    split
    · have := rowP_len D S lv i d (j + 1) (acc ++ [⟨rd lv i, rd lv j⟩]); simp at this; omega
    · have := rowP_len D S lv i d (j + 1) acc; omega

def allP (D : List (List Int)) (S : List S37) (lv : List Int) : Nat → Nat → List S63 → List S63
  | 0, _, acc => acc
  | d + 1, i, acc => allP D S lv d (i + 1) (rowP D S lv i d (i + 1) acc)

theorem rowP_ext (D : List (List Int)) (S S' : List S37) (lv : List Int) (n : Nat) (h : ∀ i j : Nat, i < n → j < n → sq (rd_T37 S (i : Int)) (rd_T37 S (j : Int)) = sq (rd_T37 S' (i : Int)) (rd_T37 S' (j : Int))) (i : Nat) (hi : i < n) : ∀ (d j : Nat) (acc : List S63), j + d = n → rowP D S lv i d j acc = rowP D S' lv i d j acc
  | 0, j, acc, hj => rfl
  | d + 1, j, acc, hj => by simp only [rowP, h i j hi (by omega), rowP_ext D S S' lv n h i hi d (j + 1) _ (by omega)]
theorem allP_ext (D : List (List Int)) (S S' : List S37) (lv : List Int) (n : Nat) (h : ∀ i j : Nat, i < n → j < n → sq (rd_T37 S (i : Int)) (rd_T37 S (j : Int)) = sq (rd_T37 S' (i : Int)) (rd_T37 S' (j : Int))) : ∀ (d i : Nat) (acc : List S63), i + d = n → allP D S lv d i acc = allP D S' lv d i acc
  | 0, i, acc, hi => rfl
  | d + 1, i, acc, hi => by simp only [allP, rowP_ext D S S' lv n h i (by omega) d (i + 1) acc (by omega), allP_ext D S S' lv n h d (i + 1) _ (by omega)]

structure Fit (D : List (List Int)) (S : List S37) (lv : List Int) : Prop where
  s : S.length = D.length
  v : lv.length = D.length
  l : D.length ≤ 16
  r : ∀ i : Nat, i < D.length → (rd_L2 D (i : Int)).length = D.length

theorem implRowP {D : List (List Int)} {S : List S37} {lv : List Int} (f : Fit D S lv) (i : Nat) (hi : i < S.length) (R : List S63 × Int) : ∀ (d j : Nat) (acc : List S63), j + d = S.length → acc.length + d ≤ 1000 →
    Ev (fun k => impl_ActivePairs.l0 k S lv D (rowP D S lv i d j acc) S (S.length : Int) ((i + 1 : Nat) : Int)) R →
    Ev (fun k => impl_ActivePairs.l1 k S lv D acc (i : Int) (j : Int) S (S.length : Int) (i : Int) ((rd_T37 S (i : Int)).f0) ((rd_T37 S (i : Int)).f1)) R
  | 0, j, acc, hj, ha, h => by
    have := f.l; have := f.v; have := f.s
    refine ev_succ ?_
    simp only [impl_ActivePairs.l1, wnext i (by omega)]
    exact ev_neg (by omega) h
  | d + 1, j, acc, hj, ha, h => by
    have := f.l; have := f.v; have := f.s; have := f.r i (by omega)
    refine ev_succ ?_
    simp only [impl_ActivePairs.l1, impl_Spot_square.f, Option.bind_some, wnext j (by omega)]
    refine ev_pos (by omega) (ev_pos (by omega) (ev_pos (by omega) (ev_pos (by omega) (ev_pos (by omega) ?_))))
    by_cases q : sq (rd_T37 S (i : Int)) (rd_T37 S (j : Int)) = wrap64 (rd (rd_L2 D (i : Int)) (j : Int) * rd (rd_L2 D (i : Int)) (j : Int))
    · simp only [rowP, if_pos q] at h
      exact ev_pos q (ev_pos (by omega) (ev_pos (by omega) (ev_pos (by omega) (implRowP f i hi R d (j + 1) _ (by omega) (by simp; omega) h))))
    · simp only [rowP, if_neg q] at h
      exact ev_neg q (implRowP f i hi R d (j + 1) acc (by omega) (by omega) h)

theorem implAllP {D : List (List Int)} {S : List S37} {lv : List Int} (f : Fit D S lv) : ∀ (d i : Nat) (acc : List S63), i + d = S.length → acc.length ≤ 20 * i →
    Ev (fun k => impl_ActivePairs.l0 k S lv D acc S (S.length : Int) (i : Int)) (allP D S lv d i acc, 0)
  | 0, i, acc, hi, ha => by
    refine ev_succ ?_
    simp only [impl_ActivePairs.l0, allP]
    exact ev_neg (by omega) (Ev.now _)
  | d + 1, i, acc, hi, ha => by
    have := f.l; have := f.v; have := f.s; have := rowP_len D S lv i d (i + 1) acc
    refine ev_succ ?_
    simp only [impl_ActivePairs.l0, wnext i (by omega), allP]
    refine ev_pos (by omega) (ev_pos (by omega) (ev_pos (by omega) ?_))
    exact implRowP f i (by omega) _ d (i + 1) acc (by omega) (by omega) (implAllP f d (i + 1) _ (by omega) (by omega))

theorem vP_out {a : Int} {L : List S75} {s : Int} {S : List S37} (h : vP a L s S = true) : ∃ n : Nat, a = n ∧ 2 ≤ n ∧ n ≤ 16 ∧ (∀ e ∈ L, GE n e) ∧ Fit (distOf n L (leavesL n L)) S (leavesL n L) := by
  unfold vP at h
  simp only [Bool.and_eq_true, decide_eq_true_iff] at h
  obtain ⟨h1, _, h2, _⟩ := h
  obtain ⟨n, rfl, h0, h1, _, hL, _⟩ := vT_out h1
  simp only [Int.toNat_natCast] at h2
  have l1 := leavesL_len n L
  have l2 := distOf_len n L (leavesL n L)
  exact ⟨n, rfl, h0, h1, hL, by omega, by omega, by omega, fun i hi => by rw [l2] at hi ⊢; exact distOf_row n L _ i hi⟩

/-- A packing's active pairs. -/
theorem impl_active (n : Nat) (L : List S75) (hl : L.length ≤ 1048576) (s : Int) (S : List S37) (hS : S.length ≤ 1048576) (h : vP (n : Int) L s S = true) : Ev (fun k => impl_ActivePairs.f k (n : Int) L s S) (allP (distOf n L (leavesL n L)) S (leavesL n L) S.length 0 [], 0) := by
  unfold impl_ActivePairs.f
  refine Ev.bind (impl_valid (n : Int) L hl s S hS) ?_
  rw [h]
  obtain ⟨n', e, h0, h1, hL, f⟩ := vP_out h
  have e' : n = n' := by omega
  subst e'
  simp only [if_true]
  exact Ev.bind (impl_leaves n h1 L hl hL) (Ev.bind (impl_dists n h1 L hl hL) (implAllP f _ 0 [] (by omega) (by simp)))

/-- The spots, turned. -/
def trn (s : Int) (p : S37) : S37 := ⟨p.f1, wrap64 (s - p.f0)⟩
theorem sq_trn (s : Int) (hs : s ≤ 40) (a b : S37) (ha : inb s a = true) (hb : inb s b = true) : sq (trn s a) (trn s b) = sq a b := by
  unfold inb at ha hb
  simp only [Bool.and_eq_true, decide_eq_true_iff] at ha hb
  unfold sq trn
  simp only
  rw [w64 (i := s - a.f0) (by omega) (by omega), w64 (i := s - b.f0) (by omega) (by omega)]
  rw [show s - a.f0 - (s - b.f0) = -(a.f0 - b.f0) by omega]
  rw [w64 (i := a.f0 - b.f0) (by omega) (by omega), w64 (i := -(a.f0 - b.f0)) (by omega) (by omega), w64 (i := a.f1 - b.f1) (by omega) (by omega)]
  rw [Int.neg_mul_neg, Int.add_comm]
theorem inb_trn (s : Int) (hs : s ≤ 40) (a : S37) (ha : inb s a = true) : inb s (trn s a) = true := by
  unfold inb at ha ⊢
  simp only [Bool.and_eq_true, decide_eq_true_iff] at ha ⊢
  unfold trn
  simp only
  rw [w64 (by omega) (by omega)]
  omega
theorem rd_trn (s : Int) (S : List S37) (i : Nat) (h : i < S.length) : rd_T37 (S.map (trn s)) (i : Int) = trn s (rd_T37 S (i : Int)) := by
  rw [rd68 _ i (by simpa using h), rd68 _ i h, List.getElem_map]
theorem rowOk_trn (s : Int) (hs : s ≤ 40) (D : List (List Int)) (S : List S37) (hin : ∀ j : Nat, j < S.length → inb s (rd_T37 S (j : Int)) = true) (i : Nat) (hi : i < S.length) : ∀ (d j : Nat), j + d = i → rowOk D (S.map (trn s)) i d j = rowOk D S i d j
  | 0, j, hj => rfl
  | d + 1, j, hj => by
    simp only [rowOk, rd_trn s S i hi, rd_trn s S j (by omega), sq_trn s hs _ _ (hin i hi) (hin j (by omega)), rowOk_trn s hs D S hin i hi d (j + 1) (by omega)]

end Go.Proofs.YtmckbecegiegaaaAT
