/- Marks that a law puts into a tree, and finds again. -/
import Derived.Test.YtddaiabilhjcpaaDoorATreeEq
import Derived.Test.YtddaiabilhjcpaaDoorAx11
import Derived.Test.YtddaiabilhjcpaaDoorAx11
namespace Go.Proofs.YtddaiabilhjcpaaDoorAT
open Go.RowKit Go.Proofs.YtddaiabilhjcpaaDoor.A Go.Proofs.YtddaiabilhjcpaaDoorW.PrintWords Go.Proofs.YtddaiabilhjcpaaDoorM

theorem markTS_loop : ∀ (d i : Nat) (L : List S52) (v : Int), i + d = L.length → L.length ≤ 1048576 → 0 ≤ v → v + 3 * d ≤ 1000000000 → (∀ j, j < i → L[j]? = some ⟨v - 3 * i + 3 * j, v - 3 * i + 3 * j + 1, v - 3 * i + 3 * j + 2⟩) →
    ∃ m : List S52, Ev (fun k => laws_markTreeEdgeS.l0 k L v (i : Int)) (v + 3 * d, m) ∧ m.length = L.length ∧ ∀ j, j < L.length → m[j]? = some ⟨v - 3 * i + 3 * j, v - 3 * i + 3 * j + 1, v - 3 * i + 3 * j + 2⟩
  | 0, i, L, v, hi, hl, h0, h1, h => by
    refine ⟨L, ev_succ ?_, rfl, fun j hj => h j (by omega)⟩
    simp only [laws_markTreeEdgeS.l0]
    refine ev_neg (by omega) ?_
    rw [show v + 3 * ((0 : Nat) : Int) = v by omega]
    exact Ev.now _
  | d + 1, i, L, v, hi, hl, h0, h1, h => by
    have hlt : i < L.length := by omega
    have e1 : rd_T52 (L.set i ⟨v, (rd_T52 L i).f1, (rd_T52 L i).f2⟩) i = ⟨v, (rd_T52 L i).f1, (rd_T52 L i).f2⟩ := by simp [rd_T52, hlt]
    have e2 : rd_T52 ((L.set i ⟨v, (rd_T52 L i).f1, (rd_T52 L i).f2⟩).set i ⟨v, v + 1, (rd_T52 L i).f2⟩) i = ⟨v, v + 1, (rd_T52 L i).f2⟩ := by simp [rd_T52, hlt]
    obtain ⟨m, g1, g2, g3⟩ := markTS_loop d (i + 1) (((L.set i ⟨v, (rd_T52 L i).f1, (rd_T52 L i).f2⟩).set i ⟨v, v + 1, (rd_T52 L i).f2⟩).set i ⟨v, v + 1, v + 1 + 1⟩) (v + 1 + 1 + 1) (by simp; omega) (by simp; omega) (by omega) (by omega) (by
      intro j hj
      by_cases e : j = i
      · subst e
        rw [List.getElem?_set_self (by simpa using hlt)]
        congr 2 <;> omega
      · rw [List.getElem?_set_ne (by omega), List.getElem?_set_ne (by omega), List.getElem?_set_ne (by omega), h j (by omega)]
        congr 2 <;> omega)
    simp only [List.length_set] at g1 g2 g3
    refine ⟨m, ev_succ ?_, g2, fun j hj => ?_⟩
    · simp only [laws_markTreeEdgeS.l0]
      refine ev_pos (by omega) (ev_pos (by omega) ?_)
      rw [w64 (i := v + 1) (by omega) (by omega), w64 (i := v + 1 + 1) (by omega) (by omega), w64 (i := v + 1 + 1 + 1) (by omega) (by omega), wnext i (by omega)]
      simp only [Option.bind_some, Int.toNat_natCast, e1, e2]
      rw [show v + 3 * ((d + 1 : Nat) : Int) = v + 1 + 1 + 1 + 3 * (d : Int) by omega]
      exact g1
    · rw [g3 j hj]
      congr 2 <;> omega

theorem heldTS_loop (m : List S52) (hl : m.length ≤ 1048576) (h : ∀ j, j < m.length → m[j]? = some ⟨1 + 3 * j, 1 + 3 * j + 1, 1 + 3 * j + 1 + 1⟩) : ∀ (d i : Nat), i + d = m.length → Ev (fun k => laws_heldTreeEdgeS.l0 k m (1 + 3 * i) (i : Int)) (1 + 3 * (m.length : Int))
  | 0, i, hi => by
    refine ev_succ ?_
    simp only [laws_heldTreeEdgeS.l0]
    rw [show m.length = i by omega]
    exact ev_neg (by omega) (Ev.now _)
  | d + 1, i, hi => by
    have hr : rd_T52 m (i : Int) = ⟨1 + 3 * i, 1 + 3 * i + 1, 1 + 3 * i + 1 + 1⟩ := by
      have := h i (by omega)
      simp [rd_T52, List.getD_eq_getElem?_getD, this]
    refine ev_succ ?_
    simp only [laws_heldTreeEdgeS.l0, wnext i (by omega), hr]
    rw [w64 (i := 1 + 3 * (i : Int) + 1) (by omega) (by omega), w64 (i := 1 + 3 * (i : Int) + 1 + 1) (by omega) (by omega), w64 (by omega) (by omega)]
    refine ev_pos (by omega) (ev_pos (by omega) (ev_pos (by first | rfl | trivial) (ev_pos (by first | rfl | trivial) (ev_pos (by first | rfl | trivial) ?_))))
    rw [show (1 : Int) + 3 * i + 1 + 1 + 1 = 1 + 3 * ((i + 1 : Nat) : Int) by omega]
    exact heldTS_loop m hl h d (i + 1) (by omega)

theorem markTS (a : Int) (L : List S52) (hl : L.length ≤ 1048576) : ∃ m, Ev (fun k => laws_markTree.f k a L 1) (1 + 3 * (L.length : Int), m) ∧ Ev (fun k => laws_heldTree.f k a m 1) (1 + 3 * (L.length : Int)) := by
  obtain ⟨m, h1, h2, h3⟩ := markTS_loop L.length 0 L 1 (by omega) hl (by omega) (by omega) (fun j h => absurd h (Nat.not_lt_zero _))
  refine ⟨m, ?_, ?_⟩
  · unfold laws_markTree.f laws_markTreeEdgeS.f
    exact Ev.bind h1 (Ev.now _)
  · have := heldTS_loop m (by omega) (by
      rw [h2]
      intro j hj
      rw [h3 j hj]
      congr 2 <;> omega) m.length 0 (by omega)
    rw [h2] at this
    unfold laws_heldTree.f laws_heldTreeEdgeS.f
    exact Ev.bind this (ev_neg (by omega) (Ev.now _))

end Go.Proofs.YtddaiabilhjcpaaDoorAT
