/- Marks that a law puts into a slice of whole numbers, and finds again. -/
import Derived.Test.YtnbhnkpefhdgjaaLTreeMark
import Derived.Test.YtnbhnkpefhdgjaaLx9
import Derived.Test.YtnbhnkpefhdgjaaLx8
namespace Go.Proofs.YtnbhnkpefhdgjaaLT
open Go.RowKit Go.Proofs.Ytnbhnkpefhdgjaa.L Go.Proofs.YtnbhnkpefhdgjaaW.PrintWords Go.Proofs.YtnbhnkpefhdgjaaM

theorem markI_loop : ∀ (d i : Nat) (l : List Int), i + d = l.length → l.length ≤ 1048576 → (∀ j, j < i → l[j]? = some (1 + j)) →
    ∃ m : List Int, Ev (fun k => laws_markInt64S.l0 k l (1 + i) (i : Int)) (1 + (l.length : Int), m) ∧ m.length = l.length ∧ ∀ j, j < l.length → m[j]? = some (1 + j)
  | 0, i, l, hi, hl, h => by
    have e : i = l.length := by omega
    refine ⟨l, ev_succ ?_, rfl, by rw [← e]; exact h⟩
    simp only [laws_markInt64S.l0]
    rw [← e]
    exact ev_neg (by omega) (Ev.now _)
  | d + 1, i, l, hi, hl, h => by
    have hlt : i < l.length := by omega
    obtain ⟨m, h1, h2, h3⟩ := markI_loop d (i + 1) (l.set i (1 + i)) (by simp; omega) (by simp; omega) (by
      intro j hj
      by_cases e : j = i
      · subst e; simp [hlt]
      · rw [List.getElem?_set_ne (by omega)]; exact h j (by omega))
    simp only [List.length_set] at h1 h2 h3
    refine ⟨m, ev_succ ?_, h2, h3⟩
    simp only [laws_markInt64S.l0, wnext i (by omega), Int.toNat_natCast]
    refine ev_pos (by omega) (ev_pos (by omega) ?_)
    rw [w64 (by omega) (by omega), show (1 : Int) + i + 1 = 1 + ((i + 1 : Nat) : Int) by omega]
    exact h1

theorem heldI_loop (m : List Int) (hl : m.length ≤ 1048576) (h : ∀ j, j < m.length → m[j]? = some (1 + j)) : ∀ (d i : Nat), i + d = m.length → Ev (fun k => laws_heldInt64S.l0 k m (1 + i) (i : Int)) (1 + (m.length : Int))
  | 0, i, hi => by
    refine ev_succ ?_
    simp only [laws_heldInt64S.l0]
    rw [show m.length = i by omega]
    exact ev_neg (by omega) (Ev.now _)
  | d + 1, i, hi => by
    have hr : rd m (i : Int) = 1 + i := by
      have := h i (by omega)
      simp [rd, List.getD_eq_getElem?_getD, this]
    refine ev_succ ?_
    simp only [laws_heldInt64S.l0, wnext i (by omega)]
    refine ev_pos (by omega) (ev_pos (by omega) (ev_pos hr ?_))
    rw [w64 (by omega) (by omega), show (1 : Int) + i + 1 = 1 + ((i + 1 : Nat) : Int) by omega]
    exact heldI_loop m hl h d (i + 1) (by omega)

/-- Marks put into a slice are found again. -/
theorem markI (l : List Int) (hl : l.length ≤ 1048576) : ∃ m, Ev (fun k => laws_markInt64S.f k l 1) (1 + (l.length : Int), m) ∧ Ev (fun k => laws_heldInt64S.f k m 1) (1 + (l.length : Int)) := by
  obtain ⟨m, h1, h2, h3⟩ := markI_loop l.length 0 l (by omega) hl (fun j h => absurd h (Nat.not_lt_zero _))
  refine ⟨m, ?_, ?_⟩
  · exact h1
  · have := heldI_loop m (by omega) (by rw [h2]; exact h3) m.length 0 (by omega)
    rw [h2] at this
    exact this

theorem eqI_loop (l : List Int) (hl : l.length ≤ 1048576) : ∀ (d i : Nat), i + d = l.length → Ev (fun k => laws_eqInt64S.l0 k l l (i : Int)) true
  | 0, i, hi => by
    refine ev_succ ?_
    simp only [laws_eqInt64S.l0]
    exact ev_neg (by omega) (Ev.now _)
  | d + 1, i, hi => by
    refine ev_succ ?_
    simp only [laws_eqInt64S.l0, wnext i (by omega), if_true]
    exact ev_pos (by omega) (ev_pos (by omega) (ev_pos (by omega) (eqI_loop l hl d (i + 1) (by omega))))

theorem eqI_refl (l : List Int) (hl : l.length ≤ 1048576) : Ev (fun k => laws_eqInt64S.f k l l) true := by
  unfold laws_eqInt64S.f
  simp only [if_true]
  exact eqI_loop l hl l.length 0 (by omega)

end Go.Proofs.YtnbhnkpefhdgjaaLT
