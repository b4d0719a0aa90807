/- Marks that a law puts into spots and pairs, and finds again. -/
import Derived.Test.YtnbhnkpefhdgjaaITreeMark
import Derived.Test.YtnbhnkpefhdgjaaIx2
import Derived.Test.YtnbhnkpefhdgjaaIx14
import Derived.Test.YtnbhnkpefhdgjaaIx13
namespace Go.Proofs.YtnbhnkpefhdgjaaIT
open Go.RowKit Go.Proofs.Ytnbhnkpefhdgjaa.I Go.Proofs.YtnbhnkpefhdgjaaW.PrintWords Go.Proofs.YtnbhnkpefhdgjaaM

theorem markS_loop : ∀ (d i : Nat) (l : List S68) (v : Int), i + d = l.length → l.length ≤ 1048576 → 0 ≤ v → v + 2 * d ≤ 1000000000 → ∃ w m, Ev (fun k => laws_markSpotS.l0 k l v (i : Int)) (w, m) ∧ 0 ≤ w
  | 0, i, l, v, hi, hl, h0, h1 => by
    refine ⟨v, l, ev_succ ?_, h0⟩
    simp only [laws_markSpotS.l0]
    exact ev_neg (by omega) (Ev.now _)
  | d + 1, i, l, v, hi, hl, h0, h1 => by
    obtain ⟨w, m, h, hw⟩ := markS_loop d (i + 1) ((l.set i ⟨v, (rd_T68 l i).f1⟩).set i ⟨(rd_T68 (l.set i ⟨v, (rd_T68 l i).f1⟩) i).f0, v + 1⟩) (v + 1 + 1) (by simp; omega) (by simp; omega) (by omega) (by omega)
    refine ⟨w, m, ev_succ ?_, hw⟩
    simp only [laws_markSpotS.l0]
    refine ev_pos (by omega) (ev_pos (by omega) ?_)
    rw [w64 (i := v + 1) (by omega) (by omega), w64 (i := v + 1 + 1) (by omega) (by omega), wnext i (by omega)]
    simp only [Option.bind_some, Int.toNat_natCast]
    exact h

theorem markS (l : List S68) (v : Int) (hl : l.length ≤ 1048576) (h0 : 0 ≤ v) (h1 : v ≤ 900000000) : ∃ w m, Ev (fun k => laws_markSpotS.f k l v) (w, m) ∧ 0 ≤ w :=
  markS_loop l.length 0 l v (by omega) hl h0 (by omega)

theorem markP_loop : ∀ (d i : Nat) (l : List S97) (v : Int), i + d = l.length → l.length ≤ 1048576 → 0 ≤ v → v + 2 * d ≤ 1000000000 → (∀ j, j < i → l[j]? = some ⟨v - 2 * i + 2 * j, v - 2 * i + 2 * j + 1⟩) →
    ∃ m : List S97, Ev (fun k => laws_markPairS.l0 k l v (i : Int)) (v + 2 * d, m) ∧ m.length = l.length ∧ ∀ j, j < l.length → m[j]? = some ⟨v - 2 * i + 2 * j, v - 2 * i + 2 * j + 1⟩
  | 0, i, l, v, hi, hl, h0, h1, h => by
    refine ⟨l, ev_succ ?_, rfl, fun j hj => h j (by omega)⟩
    simp only [laws_markPairS.l0]
    refine ev_neg (by omega) ?_
    rw [show v + 2 * ((0 : Nat) : Int) = v by omega]
    exact Ev.now _
  | d + 1, i, l, v, hi, hl, h0, h1, h => by
    have hlt : i < l.length := by omega
    have e1 : rd_T97 (l.set i ⟨v, (rd_T97 l i).f1⟩) i = ⟨v, (rd_T97 l i).f1⟩ := by simp [rd_T97, hlt]
    obtain ⟨m, g1, g2, g3⟩ := markP_loop d (i + 1) ((l.set i ⟨v, (rd_T97 l i).f1⟩).set i ⟨v, v + 1⟩) (v + 1 + 1) (by simp; omega) (by simp; omega) (by omega) (by omega) (by
      intro j hj
      by_cases e : j = i
      · subst e
        rw [List.getElem?_set_self (by simpa using hlt)]
        congr 2 <;> omega
      · rw [List.getElem?_set_ne (by omega), List.getElem?_set_ne (by omega), h j (by omega)]
        congr 2 <;> omega)
    simp only [List.length_set] at g1 g2 g3
    refine ⟨m, ev_succ ?_, g2, fun j hj => ?_⟩
    · simp only [laws_markPairS.l0]
      refine ev_pos (by omega) (ev_pos (by omega) ?_)
      rw [w64 (i := v + 1) (by omega) (by omega), w64 (i := v + 1 + 1) (by omega) (by omega), wnext i (by omega)]
      simp only [Option.bind_some, Int.toNat_natCast, e1]
      rw [show v + 2 * ((d + 1 : Nat) : Int) = v + 1 + 1 + 2 * (d : Int) by omega]
      exact g1
    · rw [g3 j hj]
      congr 2 <;> omega

theorem heldP_loop (m : List S97) (hl : m.length ≤ 1048576) (h : ∀ j, j < m.length → m[j]? = some ⟨1 + 2 * j, 1 + 2 * j + 1⟩) : ∀ (d i : Nat), i + d = m.length → Ev (fun k => laws_heldPairS.l0 k m (1 + 2 * i) (i : Int)) (1 + 2 * (m.length : Int))
  | 0, i, hi => by
    refine ev_succ ?_
    simp only [laws_heldPairS.l0]
    rw [show m.length = i by omega]
    exact ev_neg (by omega) (Ev.now _)
  | d + 1, i, hi => by
    have hr : rd_T97 m (i : Int) = ⟨1 + 2 * i, 1 + 2 * i + 1⟩ := by
      have := h i (by omega)
      simp [rd_T97, List.getD_eq_getElem?_getD, this]
    refine ev_succ ?_
    simp only [laws_heldPairS.l0, wnext i (by omega), hr]
    refine ev_pos (by omega) (ev_pos (by omega) (ev_pos (by first | rfl | trivial) ?_))
    rw [w64 (i := 1 + 2 * (i : Int) + 1) (by omega) (by omega), w64 (by omega) (by omega)]
    refine ev_pos (by first | rfl | trivial) ?_
    rw [show (1 : Int) + 2 * i + 1 + 1 = 1 + 2 * ((i + 1 : Nat) : Int) by omega]
    exact heldP_loop m hl h d (i + 1) (by omega)

theorem markP (l : List S97) (hl : l.length ≤ 1048576) : ∃ m, Ev (fun k => laws_markPairS.f k l 1) (1 + 2 * (l.length : Int), m) ∧ Ev (fun k => laws_heldPairS.f k m 1) (1 + 2 * (l.length : Int)) := by
  obtain ⟨m, h1, h2, h3⟩ := markP_loop l.length 0 l 1 (by omega) hl (by omega) (by omega) (fun j h => absurd h (Nat.not_lt_zero _))
  refine ⟨m, h1, ?_⟩
  have := heldP_loop m (by omega) (by
    rw [h2]
    intro j hj
    rw [h3 j hj]
    congr 2 <;> omega) m.length 0 (by omega)
  rw [h2] at this
  exact this

theorem eqP_loop (l : List S97) (hl : l.length ≤ 1048576) : ∀ (d n : Nat), n + d = l.length → Ev (fun k => laws_eqPairS.l0 k l l (n : Int)) true
  | 0, n, hn => by
    refine ev_succ ?_
    simp only [laws_eqPairS.l0]
    exact ev_neg (by omega) (Ev.now _)
  | d + 1, n, hn => by
    refine ev_succ ?_
    simp only [laws_eqPairS.l0, laws_eqPair.f, if_true, Option.bind_some, wnext n (by omega)]
    exact ev_pos (by omega) (ev_pos (by omega) (ev_pos (by omega) (eqP_loop l hl d (n + 1) (by omega))))

theorem eqP_refl (l : List S97) (hl : l.length ≤ 1048576) : Ev (fun k => laws_eqPairS.f k l l) true := by
  unfold laws_eqPairS.f
  simp only [if_true]
  exact eqP_loop l hl l.length 0 (by omega)

end Go.Proofs.YtnbhnkpefhdgjaaIT
