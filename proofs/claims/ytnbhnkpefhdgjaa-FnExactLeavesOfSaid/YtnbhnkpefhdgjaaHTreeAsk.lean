/- Two nodes of a valid tree, asked for. -/
import Derived.Test.YtnbhnkpefhdgjaaHTreeOk
import Derived.Test.YtnbhnkpefhdgjaaHx10
namespace Go.Proofs.YtnbhnkpefhdgjaaHT
open Go.RowKit Go.Proofs.Ytnbhnkpefhdgjaa.H Go.Proofs.YtnbhnkpefhdgjaaW.PrintWords Go.Proofs.YtnbhnkpefhdgjaaM

def nodeB (a x : Int) : Bool := decide (0 ≤ x) && decide (x < a)
def askT (a : Int) (L : List S71) (x y : Int) : Bool := vT a L && (nodeB a x && nodeB a y)

theorem askT_out {a : Int} {L : List S71} {x y : Int} (h : askT a L x y = true) : ∃ n : Nat, a = n ∧ 2 ≤ n ∧ n ≤ 16 ∧ L.length = n - 1 ∧ (∀ e ∈ L, GE n e) ∧ okFrom n L L.length 0 = true ∧ (∀ i : Int, 0 ≤ i → i < n → 0 ≤ rd (tab n L 0).1 i) ∧
    0 ≤ x ∧ x < n ∧ 0 ≤ y ∧ y < n := by
  unfold askT nodeB at h
  simp only [Bool.and_eq_true, decide_eq_true_iff] at h
  obtain ⟨h, ⟨x0, x1⟩, y0, y1⟩ := h
  obtain ⟨n, rfl, h0, h1, h2, h3, h4, h5⟩ := vT_out h
  exact ⟨n, rfl, h0, h1, h2, h3, h4, h5, x0, x1, y0, y1⟩

theorem node_eq (a x : Int) : (decide (0 ≤ x) && decide (x ≤ a - 1)) = nodeB a x := by
  unfold nodeB
  rw [show decide (x ≤ a - 1) = decide (x < a) from decide_eq_decide.2 (by omega)]

theorem isNode (a : Int) (h0 : -9223372036854775807 ≤ a) (h1 : a ≤ 9223372036854775807) (L : List S71) (x : Int) : impl_Tree_isNode.f a L x = some (nodeB a x) := by
  unfold impl_Tree_isNode.f
  rw [w64 (by omega) (by omega)]
  simp only [within_iff, Option.bind_some, node_eq]

theorem spec_ask (a : Int) (L : List S71) (hl : L.length ≤ 1048576) (x y : Int) : Ev (fun k => spec_l30Ask.f k a L x y) (askT a L x y) := by
  unfold spec_l30Ask.f askT
  refine Ev.bind (spec_ok a L hl) ?_
  cases hv : vT a L with
  | false => simp only [Bool.false_and]; exact ev_neg (by simp) (Ev.now _)
  | true =>
    refine ev_pos rfl ?_
    obtain ⟨n, rfl, h0, h1, _⟩ := vT_out hv
    rw [w64 (by omega) (by omega)]
    simp only [in_iff, Option.bind_some, node_eq, Bool.true_and]
    cases hx : nodeB n x with
    | false => simp only [Bool.false_and]; exact ev_neg (by simp) (Ev.now _)
    | true => simp only [Bool.true_and]; exact ev_pos trivial (Ev.now _)

end Go.Proofs.YtnbhnkpefhdgjaaHT
