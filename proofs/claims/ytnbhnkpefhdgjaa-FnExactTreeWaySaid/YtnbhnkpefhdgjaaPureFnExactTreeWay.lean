/- The law FnExactTreeWay, over numbers and lists alone. -/
import Derived.Test.YtnbhnkpefhdgjaaStmtFnExactTreeWay
import Derived.Test.YtnbhnkpefhdgjaaHTreeMark
namespace Go.Proofs.Ytnbhnkpefhdgjaa.Pure
open Go.RowKit Go.Proofs.Ytnbhnkpefhdgjaa.H Go.Proofs.YtnbhnkpefhdgjaaW.PrintWords Go.Proofs.YtnbhnkpefhdgjaaM Go.Proofs.YtnbhnkpefhdgjaaHT

def wayOf (b : List Int) (y : Int) : Nat → Int → List Int → List Int
  | 0, _, acc => acc
  | m + 1, x, acc => if x = y then acc else wayOf b y m (rd b x) (acc ++ [rd b x])

theorem wayOf_len (b : List Int) (y : Int) : ∀ (m : Nat) (x : Int) (acc : List Int), (wayOf b y m x acc).length ≤ acc.length + m
  | 0, x, acc => by simp [wayOf]
  | m + 1, x, acc => by
    unfold wayOf
    split
    · omega
    · have := wayOf_len b y m (rd b x) (acc ++ [rd b x])
      simp at this
      omega

theorem spec_way {n : Nat} {L : List S71} {y : Int} {d b : List Int} (s : St n L y d b) (hr : ∀ i : Int, 0 ≤ i → i < n → 0 ≤ rd d i) : ∀ (m : Nat) (x : Int) (acc : List Int), 0 ≤ x → x < n → rd d x < m → acc.length + m ≤ 1000000 →
    Ev (fun k => spec_TreeWay.l0 k x y b acc) (wayOf b y m x acc)
  | 0, x, acc, h0, h1, h2, _ => by have := hr x h0 h1; omega
  | m + 1, x, acc, h0, h1, h2, h3 => by
    have hbl := s.bl
    refine ev_succ ?_
    simp only [spec_TreeWay.l0, wayOf]
    by_cases e : x = y
    · rw [if_pos e]; exact ev_pos e (Ev.now _)
    · rw [if_neg e]
      obtain ⟨p0, p1, p2, p3⟩ := s.par x h0 h1 e (hr x h0 h1)
      exact ev_neg e (ev_pos h0 (ev_pos (by omega) (ev_pos (by omega) (spec_way s hr m (rd b x) _ p0 p1 (by omega) (by simp; omega)))))

theorem impl_way {n : Nat} {L : List S71} {y : Int} {d b : List Int} (s : St n L y d b) (hr : ∀ i : Int, 0 ≤ i → i < n → 0 ≤ rd d i) : ∀ (m : Nat) (x : Int) (acc : List Int), 0 ≤ x → x < n → rd d x < m → acc.length + m ≤ 1000000 →
    Ev (fun k => impl_TreeWay.l0 k x y b acc) (wayOf b y m x acc)
  | 0, x, acc, h0, h1, h2, _ => by have := hr x h0 h1; omega
  | m + 1, x, acc, h0, h1, h2, h3 => by
    have hbl := s.bl
    refine ev_succ ?_
    simp only [impl_TreeWay.l0, wayOf]
    by_cases e : x = y
    · rw [if_pos e]; exact ev_pos e (Ev.now _)
    · rw [if_neg e]
      obtain ⟨p0, p1, p2, p3⟩ := s.par x h0 h1 e (hr x h0 h1)
      exact ev_neg e (ev_pos h0 (ev_pos (by omega) (ev_pos (by omega) (impl_way s hr m (rd b x) _ p0 p1 (by omega) (by simp; omega)))))

def treeWay (a : Int) (L : List S71) (x y : Int) : List Int := if askT a L x y = true then wayOf (tab a.toNat L y).2 y 400 x [x] else []

theorem treeWay_len (a : Int) (L : List S71) (x y : Int) : (treeWay a L x y).length ≤ 1000 := by
  unfold treeWay
  split
  · have := wayOf_len (tab a.toNat L y).2 y 400 x [x]
    simp at this
    omega
  · simp

/-- All that the walk back from a node needs. -/
theorem way_setup {n : Nat} {L : List S71} (h0 : 2 ≤ n) (h1 : n ≤ 16) (hL : ∀ e ∈ L, GE n e) (hr : ∀ i : Int, 0 ≤ i → i < n → 0 ≤ rd (tab n L 0).1 i) {x y : Int} (x0 : 0 ≤ x) (x1 : x < n) (y0 : 0 ≤ y) (y1 : y < n) :
    St n L y (tab n L y).1 (tab n L y).2 ∧ (∀ i : Int, 0 ≤ i → i < n → 0 ≤ rd (tab n L y).1 i) ∧ rd (tab n L y).1 x < (400 : Nat) := by
  have d := tab_done n L y y0 y1 hL
  have := d.st.bnd x x0 x1
  exact ⟨d.st, all_reach n L 0 y (by omega) (by omega) y0 y1 hL hr, by omega⟩

theorem spec_treeWay (a : Int) (L : List S71) (hl : L.length ≤ 1048576) (x y : Int) : Ev (fun k => spec_TreeWay.f k a L x y) (treeWay a L x y) := by
  unfold spec_TreeWay.f treeWay
  refine Ev.bind (spec_ask a L hl x y) ?_
  cases h : askT a L x y with
  | false => simp only [Bool.false_eq_true, if_false]; exact Ev.now _
  | true =>
    obtain ⟨n, rfl, h0, h1, _, hL, _, hr, x0, x1, y0, y1⟩ := askT_out h
    simp only [if_true, Int.toNat_natCast]
    obtain ⟨s, r, b⟩ := way_setup h0 h1 hL hr x0 x1 y0 y1
    exact Ev.bind (reach_ev n h1 L hl y y0 y1 hL) (spec_way s r 400 x [x] x0 x1 b (by simp))

theorem impl_treeWay (a : Int) (L : List S71) (hl : L.length ≤ 1048576) (x y : Int) : Ev (fun k => impl_TreeWay.f k a L x y) (treeWay a L x y) := by
  have bad : askT a L x y = false → Ev (fun k => impl_TreeWay.j0 k x y true a L) (treeWay a L x y) := by
    intro e
    refine ev_succ ?_
    simp only [impl_TreeWay.j0, if_true, treeWay, e, Bool.false_eq_true, if_false]
    exact Ev.now _
  unfold impl_TreeWay.f
  refine Ev.bind (impl_ok a L hl) ?_
  cases hv : vT a L with
  | false => exact ev_neg (by simp) (bad (by simp [askT, hv]))
  | true =>
    refine ev_pos rfl ?_
    obtain ⟨n, rfl, h0, h1, _, hL, _, hr⟩ := vT_out hv
    refine ev_bindc (isNode n (by omega) (by omega) L x) ?_
    cases hx : nodeB n x with
    | false => exact ev_neg (by simp) (bad (by simp [askT, hx]))
    | true =>
      refine ev_pos rfl (ev_bindc (isNode n (by omega) (by omega) L y) ?_)
      cases hy : nodeB n y with
      | false => exact bad (by simp [askT, hy])
      | true =>
        have ha : askT n L x y = true := by simp [askT, hv, hx, hy]
        simp only [nodeB, Bool.and_eq_true, decide_eq_true_iff] at hx hy
        refine ev_succ ?_
        simp only [impl_TreeWay.j0, treeWay, ha, if_true, Bool.not_true, Bool.false_eq_true, if_false, Int.toNat_natCast]
        obtain ⟨s, r, b⟩ := way_setup h0 h1 hL hr hx.1 hx.2 hy.1 hy.2
        exact Ev.bind (far_ev n h1 L hl y hy.1 hy.2 hL) (impl_way s r 400 x [x] hx.1 hx.2 b (by simp))

theorem FnExactTreeWay : laws_FnExactTreeWay.Pure := by
  intro x0 x1 x2 ⟨_, h0, _⟩ _ _
  unfold laws_FnExactTreeWay.f
  refine Ev.rounds ?_
  rcases szTree x0.f0 x0.f1 1048576 h0 (by omega) (by omega) with ⟨_, e⟩ | ⟨g0, e⟩
  · exact ev_bindc e (ev_pos (by omega) (Ev.now _))
  refine ev_bindc e (ev_neg (by omega) ?_)
  have T0 := toTree x0.f0 x0.f1 (by omega)
  have hs := spec_treeWay x0.f0 (x0.f1.map conv) (by simp; omega) x1 x2
  have hi := impl_treeWay x0.f0 (x0.f1.map conv) (by simp; omega) x1 x2
  have hw := treeWay_len x0.f0 (x0.f1.map conv) x1 x2
  generalize treeWay x0.f0 (x0.f1.map conv) x1 x2 = W at *
  have he := eqI_refl W (by omega)
  obtain ⟨v, m, hm, hv⟩ := markT x0.f0 (x0.f1.map conv) (by simp; omega)
  obtain ⟨m2, hm2, hh⟩ := markI W (by omega)
  refine Ev.bind T0 (Ev.bind hs (Ev.bind T0 (Ev.bind hi (Ev.bind he (ev_pos rfl (Ev.bind T0 (Ev.bind (eqTree_refl _ _ (by simp; omega)) (ev_pos rfl (Ev.bind hm (ev_neg (by simp only; omega) (Ev.bind he (ev_succ ?_))))))))))))
  simp only [laws_FnExactTreeWay.j0, Bool.not_true, Bool.false_eq_true, if_false]
  exact Ev.bind hm2 (Ev.bind hh (ev_neg (by omega) (ev_pos rfl (Ev.bind T0 (Ev.bind hi (Ev.bind he (ev_pos rfl (Ev.bind hh (ev_neg (by omega) (ev_pos rfl (Ev.now _)))))))))))

end Go.Proofs.Ytnbhnkpefhdgjaa.Pure
