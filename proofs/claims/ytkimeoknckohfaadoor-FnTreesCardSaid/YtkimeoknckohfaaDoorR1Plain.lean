/- Helpers for plain laws: reckonings without overflow, places of lists. -/
import Derived.Test.YtkimeoknckohfaaDoorR1Law
namespace Go.Proofs.YtkimeoknckohfaaDoor.R1

theorem wr_id {x : Int} (h1 : -4611686018427387904 ≤ x) (h2 : x ≤ 4611686018427387904) : wr .i64 x = x := by
  unfold wr; rw [IntKind.wrap_i64]; omega

theorem wr_succ {i : Nat} (h : i < 4611686018427387904) : wr .i64 ((i : Int) + 1) = ((i + 1 : Nat) : Int) := by
  rw [wr_id (by omega) (by omega)]; rfl

theorem getI_nat {α : Type} (l : List α) (i : Nat) : getI l (i : Int) = l[i]? := by
  unfold getI; rw [if_pos (Int.natCast_nonneg i)]; rfl

theorem getI_cons {α : Type} {l r : List α} {i : Nat} {x : α} (h : l.drop i = x :: r) : getI l (i : Int) = some x := by
  rw [getI_nat]
  have := congrArg (·[0]?) h
  simpa using this

theorem at_cons {α : Type} {l r : List α} {i : Nat} {x : α} (h : l.drop i = x :: r) : l[i]? = some x := by rw [← getI_nat, getI_cons h]

theorem lt_cons {α : Type} {l r : List α} {i : Nat} {x : α} (h : l.drop i = x :: r) : i < l.length := by
  rcases Nat.lt_or_ge i l.length with q | q
  · exact q
  · rw [List.drop_eq_nil_of_le q] at h; cases h

theorem next_cons {α : Type} {l r : List α} {i : Nat} {x : α} (h : l.drop i = x :: r) : l.drop (i + 1) = r := by
  rw [← List.drop_drop, h]; rfl

theorem ge_nil {α : Type} {l : List α} {i : Nat} (h : l.drop i = []) : l.length ≤ i := List.drop_eq_nil_iff.1 h

theorem dlt {a b : Int} (h : a < b) : decide (a < b) = true := decide_eq_true h
theorem dnlt {a b : Int} (h : b ≤ a) : decide (a < b) = false := decide_eq_false (by omega)
theorem dle {a b : Int} (h : a ≤ b) : decide (a ≤ b) = true := decide_eq_true h
theorem dnle {a b : Int} (h : b < a) : decide (a ≤ b) = false := decide_eq_false (by omega)

theorem in_cons {α : Type} {l r : List α} {i : Nat} {x : α} (h : l.drop i = x :: r) : decide ((i : Int) < (l.length : Int)) = true := dlt (by have := lt_cons h; omega)
theorem out_nil {α : Type} {l : List α} {i : Nat} (h : l.drop i = []) : decide ((i : Int) < (l.length : Int)) = false := dnlt (by have := ge_nil h; omega)

theorem bnd {i n : Nat} (h : i < n) : (decide (0 ≤ (i : Int)) && decide ((i : Int) < (n : Int))) = true := by
  rw [dle (by omega), dlt (by omega)]; rfl

theorem bndI {i : Int} {n : Nat} (h0 : 0 ≤ i) (h : i < n) : (decide (0 ≤ i) && decide (i < (n : Int))) = true := by
  rw [dle h0, dlt h]; rfl

theorem getI_some {α : Type} {l : List α} {i : Int} (h0 : 0 ≤ i) (h : i < l.length) : ∃ x, getI l i = some x ∧ l[i.toNat]? = some x := by
  have : i.toNat < l.length := by omega
  refine ⟨l[i.toNat], ?_, List.getElem?_eq_getElem this⟩
  unfold getI; rw [if_pos h0, List.getElem?_eq_getElem this]
end Go.Proofs.YtkimeoknckohfaaDoor.R1
