/- The first packing, by the reference; marks that a law puts into spots. -/
import Derived.Test.YtmckbecegiegaaaATreeFirst
import Derived.Test.YtmckbecegiegaaaAx16
namespace Go.Proofs.YtmckbecegiegaaaAT
open Go.RowKit Go.Proofs.Ytmckbecegiegaaa.A Go.Proofs.YtmckbecegiegaaaW.PrintWords Go.Proofs.YtmckbecegiegaaaM

theorem spec_firstP (a : Int) (L : List S75) (hl : L.length ≤ 1048576) (s w : Int) : Ev (fun k => spec_FirstPacking.f k a L s w) (firstP a L s w) := by
  unfold spec_FirstPacking.f firstP
  refine Ev.bind (spec_ok a L hl) ?_
  cases h : vT a L with
  | false => simp only [Bool.false_eq_true, if_false]; exact Ev.now _
  | true =>
    obtain ⟨n, rfl, h0, h1, _, hL, _⟩ := vT_out h
    simp only [if_true]
    refine ev_bindc (in_iff s 1 40) ?_
    cases q : (decide (1 ≤ s) && decide (s ≤ 40)) with
    | false => simp only [Bool.false_eq_true, if_false]; exact Ev.now _
    | true =>
      simp only [if_true]
      refine ev_bindc (in_iff w 0 20000) ?_
      cases q2 : (decide (0 ≤ w) && decide (w ≤ 20000)) with
      | false => simp only [Bool.false_eq_true, if_false]; exact Ev.now _
      | true =>
        simp only [if_true]
        simp only [Bool.and_eq_true, decide_eq_true_iff] at q q2
        obtain ⟨m, rfl⟩ : ∃ m : Nat, s = m := ⟨s.toNat, by omega⟩
        obtain ⟨v, rfl⟩ : ∃ v : Nat, w = v := ⟨w.toNat, by omega⟩
        simp only [Int.toNat_natCast]
        exact Ev.bind (spec_first n h1 L hl hL m v (by omega) (by omega)) (Ev.now _)

theorem markSp_loop : ∀ (d i : Nat) (l : List S37) (v : Int), i + d = l.length → l.length ≤ 1048576 → 0 ≤ v → v + 2 * d ≤ 1000000000 → (∀ j, j < i → l[j]? = some ⟨v - 2 * i + 2 * j, v - 2 * i + 2 * j + 1⟩) →
    ∃ m : List S37, Ev (fun k => laws_markSpotS.l0 k l v (i : Int)) (v + 2 * d, m) ∧ m.length = l.length ∧ ∀ j, j < l.length → m[j]? = some ⟨v - 2 * i + 2 * j, v - 2 * i + 2 * j + 1⟩
  | 0, i, l, v, hi, hl, h0, h1, h => by
    refine ⟨l, ev_succ ?_, rfl, fun j hj => h j (by omega)⟩
    simp only [laws_markSpotS.l0]
    refine ev_neg (by omega) ?_
    rw [show v + 2 * ((0 : Nat) : Int) = v by omega]
    exact Ev.now _
  | d + 1, i, l, v, hi, hl, h0, h1, h => by
    have hlt : i < l.length := by omega
    have e1 : rd_T37 (l.set i ⟨v, (rd_T37 l i).f1⟩) i = ⟨v, (rd_T37 l i).f1⟩ := by simp [rd_T37, hlt]
    obtain ⟨m, g1, g2, g3⟩ := markSp_loop d (i + 1) ((l.set i ⟨v, (rd_T37 l i).f1⟩).set i ⟨v, v + 1⟩) (v + 1 + 1) (by simp; omega) (by simp; omega) (by omega) (by omega) (by
      intro j hj
      by_cases e : j = i
      · subst e
        rw [List.getElem?_set_self (by simpa using hlt)]
        congr 2 <;> omega
      · rw [List.getElem?_set_ne (by omega), List.getElem?_set_ne (by omega), h j (by omega)]
        congr 2 <;> omega)
    simp only [List.length_set] at g1 g2 g3
    refine ⟨m, ev_succ ?_, g2, fun j hj => ?_⟩
    · simp only [laws_markSpotS.l0]
      refine ev_pos (by omega) (ev_pos (by omega) ?_)
      rw [w64 (i := v + 1) (by omega) (by omega), w64 (i := v + 1 + 1) (by omega) (by omega), wnext i (by omega)]
      simp only [Option.bind_some, Int.toNat_natCast, e1]
      rw [show v + 2 * ((d + 1 : Nat) : Int) = v + 1 + 1 + 2 * (d : Int) by omega]
      exact g1
    · rw [g3 j hj]
      congr 2 <;> omega

theorem heldSp_loop (m : List S37) (hl : m.length ≤ 1048576) (h : ∀ j, j < m.length → m[j]? = some ⟨1 + 2 * j, 1 + 2 * j + 1⟩) : ∀ (d i : Nat), i + d = m.length → Ev (fun k => laws_heldSpotS.l0 k m (1 + 2 * i) (i : Int)) (1 + 2 * (m.length : Int))
  | 0, i, hi => by
    refine ev_succ ?_
    simp only [laws_heldSpotS.l0]
    rw [show m.length = i by omega]
    exact ev_neg (by omega) (Ev.now _)
  | d + 1, i, hi => by
    have hr : rd_T37 m (i : Int) = ⟨1 + 2 * i, 1 + 2 * i + 1⟩ := by
      have := h i (by omega)
      simp [rd_T37, List.getD_eq_getElem?_getD, this]
    refine ev_succ ?_
    simp only [laws_heldSpotS.l0, wnext i (by omega), hr]
    refine ev_pos (by omega) (ev_pos (by omega) (ev_pos (by first | rfl | trivial) ?_))
    rw [w64 (i := 1 + 2 * (i : Int) + 1) (by omega) (by omega), w64 (by omega) (by omega)]
    refine ev_pos (by first | rfl | trivial) ?_
    rw [show (1 : Int) + 2 * i + 1 + 1 = 1 + 2 * ((i + 1 : Nat) : Int) by omega]
    exact heldSp_loop m hl h d (i + 1) (by omega)

theorem markSp (l : List S37) (hl : l.length ≤ 1048576) : ∃ m, Ev (fun k => laws_markSpotS.f k l 1) (1 + 2 * (l.length : Int), m) ∧ Ev (fun k => laws_heldSpotS.f k m 1) (1 + 2 * (l.length : Int)) := by
  obtain ⟨m, h1, h2, h3⟩ := markSp_loop l.length 0 l 1 (by omega) hl (by omega) (by omega) (fun j h => absurd h (Nat.not_lt_zero _))
  refine ⟨m, h1, ?_⟩
  have := heldSp_loop m (by omega) (by
    rw [h2]
    intro j hj
    rw [h3 j hj]
    congr 2 <;> omega) m.length 0 (by omega)
  rw [h2] at this
  exact this

theorem eqSp_loop (l : List S37) (hl : l.length ≤ 1048576) : ∀ (d n : Nat), n + d = l.length → Ev (fun k => laws_eqSpotS.l0 k l l (n : Int)) true
  | 0, n, hn => by
    refine ev_succ ?_
    simp only [laws_eqSpotS.l0]
    exact ev_neg (by omega) (Ev.now _)
  | d + 1, n, hn => by
    refine ev_succ ?_
    simp only [laws_eqSpotS.l0, laws_eqSpot.f, if_true, Option.bind_some, wnext n (by omega)]
    exact ev_pos (by omega) (ev_pos (by omega) (ev_pos (by omega) (eqSp_loop l hl d (n + 1) (by omega))))

theorem eqSp_refl (l : List S37) (hl : l.length ≤ 1048576) : Ev (fun k => laws_eqSpotS.f k l l) true := by
  unfold laws_eqSpotS.f
  simp only [if_true]
  exact eqSp_loop l hl l.length 0 (by omega)

end Go.Proofs.YtmckbecegiegaaaAT
