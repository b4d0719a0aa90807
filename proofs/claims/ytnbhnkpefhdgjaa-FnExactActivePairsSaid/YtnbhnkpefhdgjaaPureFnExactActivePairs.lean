/- The law FnExactActivePairs, over numbers and lists alone. -/
import Derived.Test.YtnbhnkpefhdgjaaStmtFnExactActivePairs
import Derived.Test.YtnbhnkpefhdgjaaITreePack
import Derived.Test.YtnbhnkpefhdgjaaITreeMarkP
namespace Go.Proofs.Ytnbhnkpefhdgjaa.Pure
open Go.RowKit Go.Proofs.Ytnbhnkpefhdgjaa.I Go.Proofs.YtnbhnkpefhdgjaaW.PrintWords Go.Proofs.YtnbhnkpefhdgjaaM Go.Proofs.YtnbhnkpefhdgjaaIT

/-- Pairs of leaves at their exact distance. -/
def rowP (D : List (List Int)) (S : List S68) (lv : List Int) (i : Nat) : Nat → Nat → List S97 → List S97
  | 0, _, acc => acc
  | d + 1, j, acc => if sq (rd_T68 S (i : Int)) (rd_T68 S (j : Int)) = wrap64 (rd (rd_L5 D (i : Int)) (j : Int) * rd (rd_L5 D (i : Int)) (j : Int)) then rowP D S lv i d (j + 1) (acc ++ [⟨rd lv i, rd lv j⟩]) else rowP D S lv i d (j + 1) acc

theorem rowP_len (D : List (List Int)) (S : List S68) (lv : List Int) (i : Nat) : ∀ (d j : Nat) (acc : List S97), (rowP D S lv i d j acc).length ≤ acc.length + d
  | 0, j, acc => by simp [rowP]
  | d + 1, j, acc => by
    unfold rowP
    split
    · have := rowP_len D S lv i d (j + 1) (acc ++ [⟨rd lv i, rd lv j⟩]); simp at this; omega
    · have := rowP_len D S lv i d (j + 1) acc; omega

def allP (D : List (List Int)) (S : List S68) (lv : List Int) : Nat → Nat → List S97 → List S97
  | 0, _, acc => acc
  | d + 1, i, acc => allP D S lv d (i + 1) (rowP D S lv i d (i + 1) acc)

theorem allP_len (D : List (List Int)) (S : List S68) (lv : List Int) : ∀ (d i : Nat) (acc : List S97), (allP D S lv d i acc).length ≤ acc.length + d * d
  | 0, i, acc => by simp [allP]
  | d + 1, i, acc => by
    unfold allP
    have h1 := allP_len D S lv d (i + 1) (rowP D S lv i d (i + 1) acc)
    have h2 := rowP_len D S lv i d (i + 1) acc
    have h3 : (d + 1) * (d + 1) = d * d + 2 * d + 1 := by simp only [Nat.mul_add, Nat.add_mul]; omega
    omega

structure Fit (D : List (List Int)) (S : List S68) (lv : List Int) : Prop where
  s : S.length = D.length
  v : lv.length = D.length
  l : D.length ≤ 16
  r : ∀ i : Nat, i < D.length → (rd_L5 D (i : Int)).length = D.length

theorem specRowP {D : List (List Int)} {S : List S68} {lv : List Int} (f : Fit D S lv) (i : Nat) (hi : i < S.length) (R : List S97 × Int) : ∀ (d j : Nat) (acc : List S97), j + d = lv.length → acc.length + d ≤ 1000 →
    Ev (fun k => spec_ActivePairs.l0 k S D lv (rowP D S lv i d j acc) ((i + 1 : Nat) : Int)) R →
    Ev (fun k => spec_ActivePairs.l1 k S D lv acc (i : Int) (j : Int)) R
  | 0, j, acc, hj, ha, h => by
    have := f.l; have := f.v; have := f.s
    refine ev_succ ?_
    simp only [spec_ActivePairs.l1, wnext i (by omega)]
    exact ev_neg (by omega) h
  | d + 1, j, acc, hj, ha, h => by
    have := f.l; have := f.v; have := f.s; have := f.r i (by omega)
    refine ev_succ ?_
    simp only [spec_ActivePairs.l1, spec_l30Square.f, Option.bind_some, wnext j (by omega)]
    refine ev_pos (by omega) (ev_pos (by omega) (ev_pos (by omega) (ev_pos (by omega) (ev_pos (by omega) (ev_pos (by omega) (ev_pos (by omega) ?_))))))
    by_cases q : sq (rd_T68 S (i : Int)) (rd_T68 S (j : Int)) = wrap64 (rd (rd_L5 D (i : Int)) (j : Int) * rd (rd_L5 D (i : Int)) (j : Int))
    · simp only [rowP, if_pos q] at h
      exact ev_pos q (ev_pos (by omega) (ev_pos (by omega) (specRowP f i hi R d (j + 1) _ (by omega) (by simp; omega) h)))
    · simp only [rowP, if_neg q] at h
      exact ev_neg q (specRowP f i hi R d (j + 1) acc (by omega) (by omega) h)

theorem specAllP {D : List (List Int)} {S : List S68} {lv : List Int} (f : Fit D S lv) : ∀ (d i : Nat) (acc : List S97), i + d = lv.length → acc.length ≤ 20 * i →
    Ev (fun k => spec_ActivePairs.l0 k S D lv acc (i : Int)) (allP D S lv d i acc, 0)
  | 0, i, acc, hi, ha => by
    refine ev_succ ?_
    simp only [spec_ActivePairs.l0, allP]
    exact ev_neg (by omega) (Ev.now _)
  | d + 1, i, acc, hi, ha => by
    have := f.l; have := f.v; have := f.s; have := rowP_len D S lv i d (i + 1) acc
    refine ev_succ ?_
    simp only [spec_ActivePairs.l0, wnext i (by omega), allP]
    refine ev_pos (by omega) ?_
    exact specRowP f i (by omega) _ d (i + 1) acc (by omega) (by omega) (specAllP f d (i + 1) _ (by omega) (by omega))

theorem implRowP {D : List (List Int)} {S : List S68} {lv : List Int} (f : Fit D S lv) (i : Nat) (hi : i < S.length) (R : List S97 × Int) : ∀ (d j : Nat) (acc : List S97), j + d = S.length → acc.length + d ≤ 1000 →
    Ev (fun k => impl_ActivePairs.l0 k S lv D (rowP D S lv i d j acc) S (S.length : Int) ((i + 1 : Nat) : Int)) R →
    Ev (fun k => impl_ActivePairs.l1 k S lv D acc (i : Int) (j : Int) S (S.length : Int) (i : Int) ((rd_T68 S (i : Int)).f0) ((rd_T68 S (i : Int)).f1)) R
  | 0, j, acc, hj, ha, h => by
    have := f.l; have := f.v; have := f.s
    refine ev_succ ?_
    simp only [impl_ActivePairs.l1, wnext i (by omega)]
    exact ev_neg (by omega) h
  | d + 1, j, acc, hj, ha, h => by
    have := f.l; have := f.v; have := f.s; have := f.r i (by omega)
    refine ev_succ ?_
    simp only [impl_ActivePairs.l1, impl_Spot_square.f, Option.bind_some, wnext j (by omega)]
    refine ev_pos (by omega) (ev_pos (by omega) (ev_pos (by omega) (ev_pos (by omega) (ev_pos (by omega) ?_))))
    by_cases q : sq (rd_T68 S (i : Int)) (rd_T68 S (j : Int)) = wrap64 (rd (rd_L5 D (i : Int)) (j : Int) * rd (rd_L5 D (i : Int)) (j : Int))
    · simp only [rowP, if_pos q] at h
      exact ev_pos q (ev_pos (by omega) (ev_pos (by omega) (ev_pos (by omega) (implRowP f i hi R d (j + 1) _ (by omega) (by simp; omega) h))))
    · simp only [rowP, if_neg q] at h
      exact ev_neg q (implRowP f i hi R d (j + 1) acc (by omega) (by omega) h)

theorem implAllP {D : List (List Int)} {S : List S68} {lv : List Int} (f : Fit D S lv) : ∀ (d i : Nat) (acc : List S97), i + d = S.length → acc.length ≤ 20 * i →
    Ev (fun k => impl_ActivePairs.l0 k S lv D acc S (S.length : Int) (i : Int)) (allP D S lv d i acc, 0)
  | 0, i, acc, hi, ha => by
    refine ev_succ ?_
    simp only [impl_ActivePairs.l0, allP]
    exact ev_neg (by omega) (Ev.now _)
  | d + 1, i, acc, hi, ha => by
    have := f.l; have := f.v; have := f.s; have := rowP_len D S lv i d (i + 1) acc
    refine ev_succ ?_
    simp only [impl_ActivePairs.l0, wnext i (by omega), allP]
    refine ev_pos (by omega) (ev_pos (by omega) (ev_pos (by omega) ?_))
    exact implRowP f i (by omega) _ d (i + 1) acc (by omega) (by omega) (implAllP f d (i + 1) _ (by omega) (by omega))

def active (a : Int) (L : List S71) (s : Int) (S : List S68) : List S97 × Int :=
  if vP a L s S = true then (allP (distOf a.toNat L (leavesL a.toNat L)) S (leavesL a.toNat L) S.length 0 [], 0) else ([], 1)

theorem vP_out {a : Int} {L : List S71} {s : Int} {S : List S68} (h : vP a L s S = true) : ∃ n : Nat, a = n ∧ 2 ≤ n ∧ n ≤ 16 ∧ (∀ e ∈ L, GE n e) ∧ Fit (distOf n L (leavesL n L)) S (leavesL n L) := by
  unfold vP at h
  simp only [Bool.and_eq_true, decide_eq_true_iff] at h
  obtain ⟨h1, _, h2, _⟩ := h
  obtain ⟨n, rfl, h0, h1, _, hL, _⟩ := vT_out h1
  simp only [Int.toNat_natCast] at h2
  have l1 := leavesL_len n L
  have l2 := distOf_len n L (leavesL n L)
  exact ⟨n, rfl, h0, h1, hL, by omega, by omega, by omega, fun i hi => by rw [l2] at hi ⊢; exact distOf_row n L _ i hi⟩

theorem active_len (a : Int) (L : List S71) (s : Int) (S : List S68) : (active a L s S).1.length ≤ 256 ∧ 0 ≤ (active a L s S).2 := by
  unfold active
  split
  · rename_i h
    obtain ⟨n, rfl, h0, h1, hL, f⟩ := vP_out h
    have := f.s; have hd := f.l
    have := allP_len (distOf n L (leavesL n L)) S (leavesL n L) S.length 0 []
    have h2 : S.length * S.length ≤ 16 * 16 := Nat.mul_le_mul (by omega) (by omega)
    simp only [Int.toNat_natCast]
    simp at this
    omega
  · simp

theorem spec_active (a : Int) (L : List S71) (hl : L.length ≤ 1048576) (s : Int) (S : List S68) (hS : S.length ≤ 1048576) : Ev (fun k => spec_ActivePairs.f k a L s S) (active a L s S) := by
  unfold spec_ActivePairs.f active
  refine Ev.bind (a := vP a L s S) ?_ ?_
  · unfold spec_ValidPacking.f; exact spec_valid a L hl s S hS
  · cases h : vP a L s S with
    | false => simp only [Bool.false_eq_true, if_false]; exact Ev.now _
    | true =>
      obtain ⟨n, rfl, h0, h1, hL, f⟩ := vP_out h
      simp only [if_true, Int.toNat_natCast]
      have e : S.length = (leavesL n L).length := by rw [f.s, f.v]
      rw [e]
      exact Ev.bind (spec_dists n h1 L hl hL) (Ev.bind (spec_leaves n h1 L hl) (specAllP f _ 0 [] (by omega) (by simp)))

theorem impl_active (a : Int) (L : List S71) (hl : L.length ≤ 1048576) (s : Int) (S : List S68) (hS : S.length ≤ 1048576) : Ev (fun k => impl_ActivePairs.f k a L s S) (active a L s S) := by
  unfold impl_ActivePairs.f active
  refine Ev.bind (impl_valid a L hl s S hS) ?_
  cases h : vP a L s S with
  | false => simp only [Bool.false_eq_true, if_false]; exact Ev.now _
  | true =>
    obtain ⟨n, rfl, h0, h1, hL, f⟩ := vP_out h
    simp only [if_true, Int.toNat_natCast]
    exact Ev.bind (impl_leaves n h1 L hl hL) (Ev.bind (impl_dists n h1 L hl hL) (implAllP f _ 0 [] (by omega) (by simp)))

theorem FnExactActivePairs : laws_FnExactActivePairs.Pure := by
  intro x0 x1 x2 ⟨_, h0, _⟩ _ ⟨h2, _⟩
  unfold laws_FnExactActivePairs.f
  refine Ev.rounds ?_
  rcases szTree x0.f0 x0.f1 1048576 h0 (by omega) (by omega) with ⟨_, e⟩ | ⟨g0, e⟩
  · exact ev_bindc e (ev_pos (by omega) (Ev.now _))
  refine ev_bindc e (ev_neg (by omega) ?_)
  rcases szSpots x2 (1048576 - x0.f1.length) h2 (by omega) (by omega) with ⟨_, e⟩ | ⟨g1, e⟩
  · exact ev_bindc e (ev_pos (by omega) (Ev.now _))
  refine ev_bindc e (ev_neg (by omega) ?_)
  have T0 := toTree x0.f0 x0.f1 (by omega)
  have T2 := toSpots x2 (by omega)
  have hL : (x0.f1.map conv).length ≤ 1048576 := by simp; omega
  have hS : (x2.map convS).length ≤ 1048576 := by simp; omega
  have hs := spec_active x0.f0 (x0.f1.map conv) hL x1 (x2.map convS) hS
  have hi := impl_active x0.f0 (x0.f1.map conv) hL x1 (x2.map convS) hS
  have hw := active_len x0.f0 (x0.f1.map conv) x1 (x2.map convS)
  have eT := eqTree_refl x0.f0 (x0.f1.map conv) hL
  have eS := eqSpots_refl (x2.map convS) hS
  generalize active x0.f0 (x0.f1.map conv) x1 (x2.map convS) = A at *
  obtain ⟨W, c⟩ := A
  simp only at hw
  have he := eqP_refl W (by omega)
  obtain ⟨v, m, hm, hv0, hv1⟩ := markT x0.f0 (x0.f1.map conv) hL
  obtain ⟨v2, m2, hm2, hv2⟩ := markS (x2.map convS) v hS hv0 (by omega)
  obtain ⟨m3, hm3, hh⟩ := markP W (by omega)
  refine Ev.bind T0 (Ev.bind T2 (Ev.bind hs (Ev.bind T0 (Ev.bind T2 (Ev.bind hi (Ev.bind he (ev_pos rfl (ev_succ ?_))))))))
  simp only [laws_FnExactActivePairs.j0, bne_self_eq_false, Bool.false_eq_true, if_false]
  refine Ev.bind T0 (Ev.bind eT (ev_pos rfl (Ev.bind T2 (Ev.bind eS (ev_pos rfl (Ev.bind hm (Ev.bind hm2 (ev_neg (by simp only; omega) (Ev.bind he (ev_pos rfl (ev_succ ?_)))))))))))
  simp only [laws_FnExactActivePairs.j1, Bool.false_eq_true, if_false]
  refine Ev.bind hm3 (Ev.bind hh (ev_neg (by omega) (ev_pos rfl (Ev.bind T0 (Ev.bind T2 (Ev.bind hi (Ev.bind he (ev_pos rfl (ev_succ ?_)))))))))
  simp only [laws_FnExactActivePairs.j2, bne_self_eq_false, Bool.false_eq_true, if_false]
  exact Ev.bind hh (ev_neg (by omega) (ev_pos rfl (Ev.now _)))

end Go.Proofs.Ytnbhnkpefhdgjaa.Pure
