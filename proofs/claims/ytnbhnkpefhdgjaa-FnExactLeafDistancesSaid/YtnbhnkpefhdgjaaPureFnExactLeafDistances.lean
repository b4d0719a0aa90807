/- The law FnExactLeafDistances, over numbers and lists alone. -/
import Derived.Test.YtnbhnkpefhdgjaaStmtFnExactLeafDistances
import Derived.Test.YtnbhnkpefhdgjaaLTreeDist
import Derived.Test.YtnbhnkpefhdgjaaLTreeMarkSS
namespace Go.Proofs.Ytnbhnkpefhdgjaa.Pure
open Go.RowKit Go.Proofs.Ytnbhnkpefhdgjaa.L Go.Proofs.YtnbhnkpefhdgjaaW.PrintWords Go.Proofs.YtnbhnkpefhdgjaaM Go.Proofs.YtnbhnkpefhdgjaaLT

def dists (a : Int) (L : List S71) : List (List Int) := if vT a L = true then distOf a.toNat L (leavesL a.toNat L) else []

theorem tot_map (f : Int → List Int) (n : Nat) : ∀ (l : List Int), (∀ x ∈ l, (f x).length = n) → tot (l.map f) = l.length * n
  | [], _ => by simp [tot]
  | a :: l, h => by
    simp only [List.map_cons, tot, List.length_cons]
    rw [h a List.mem_cons_self, tot_map f n l (fun x hx => h x (List.mem_cons_of_mem _ hx)), Nat.add_mul]
    omega

theorem dists_len (a : Int) (L : List S71) : (dists a L).length ≤ 16 ∧ tot (dists a L) ≤ 256 := by
  unfold dists
  split
  · rename_i h
    obtain ⟨n, rfl, h0, h1, _⟩ := vT_out h
    have l1 := leavesL_len n L
    simp only [Int.toNat_natCast]
    refine ⟨by rw [distOf_len]; omega, ?_⟩
    unfold distOf
    rw [tot_map _ (leavesL n L).length _ (fun x _ => by simp [distRow])]
    have : (leavesL n L).length * (leavesL n L).length ≤ 16 * 16 := Nat.mul_le_mul (by omega) (by omega)
    omega
  · simp [tot]

theorem spec_d (a : Int) (L : List S71) (hl : L.length ≤ 1048576) : Ev (fun k => spec_LeafDistances.f k a L) (dists a L) := by
  unfold spec_LeafDistances.f dists
  refine Ev.bind (spec_ok a L hl) ?_
  cases h : vT a L with
  | false => simp only [Bool.false_eq_true, if_false]; exact Ev.now _
  | true =>
    obtain ⟨n, rfl, h0, h1, _, hL, _⟩ := vT_out h
    simp only [if_true, Int.toNat_natCast]
    exact Ev.bind (spec_dists n h1 L hl hL) (Ev.now _)

theorem impl_d (a : Int) (L : List S71) (hl : L.length ≤ 1048576) : Ev (fun k => impl_LeafDistances.f k a L) (dists a L) := by
  unfold impl_LeafDistances.f dists
  refine Ev.bind (impl_ok a L hl) ?_
  cases h : vT a L with
  | false => simp only [Bool.false_eq_true, if_false]; exact Ev.now _
  | true =>
    obtain ⟨n, rfl, h0, h1, _, hL, _⟩ := vT_out h
    simp only [if_true, Int.toNat_natCast]
    exact Ev.bind (impl_dists n h1 L hl hL) (Ev.now _)

theorem FnExactLeafDistances : laws_FnExactLeafDistances.Pure := by
  intro x0 ⟨_, h0, _⟩
  unfold laws_FnExactLeafDistances.f
  refine Ev.rounds ?_
  rcases szTree x0.f0 x0.f1 1048576 h0 (by omega) (by omega) with ⟨_, e⟩ | ⟨g0, e⟩
  · exact ev_bindc e (ev_pos (by omega) (Ev.now _))
  refine ev_bindc e (ev_neg (by omega) ?_)
  have T0 := toTree x0.f0 x0.f1 (by omega)
  have hs := spec_d x0.f0 (x0.f1.map conv) (by simp; omega)
  have hi := impl_d x0.f0 (x0.f1.map conv) (by simp; omega)
  obtain ⟨hw, ht⟩ := dists_len x0.f0 (x0.f1.map conv)
  generalize dists x0.f0 (x0.f1.map conv) = W at *
  have he := eqSS_refl W (by omega) (by omega)
  obtain ⟨v, m, hm, hv⟩ := markT x0.f0 (x0.f1.map conv) (by simp; omega)
  obtain ⟨m2, hm2, hh⟩ := markSS W (by omega) (by omega)
  refine Ev.bind T0 (Ev.bind hs (Ev.bind T0 (Ev.bind hi (Ev.bind he (ev_pos rfl (Ev.bind T0 (Ev.bind (eqTree_refl _ _ (by simp; omega)) (ev_pos rfl (Ev.bind hm (ev_neg (by simp only; omega) (Ev.bind he (ev_succ ?_))))))))))))
  simp only [laws_FnExactLeafDistances.j0, Bool.not_true, Bool.false_eq_true, if_false]
  exact Ev.bind hm2 (Ev.bind hh (ev_neg (by omega) (ev_pos rfl (Ev.bind T0 (Ev.bind hi (Ev.bind he (ev_pos rfl (Ev.bind hh (ev_neg (by omega) (ev_pos rfl (Ev.now _)))))))))))

end Go.Proofs.Ytnbhnkpefhdgjaa.Pure
