/- The law FnPackings, over numbers and lists alone. -/
import Derived.Test.YtmckbecegiegaaaStmtFnPackings
import Derived.Test.YtmckbecegiegaaaATreePackI
import Derived.Test.YtmckbecegiegaaaATreeSide
import Derived.Test.YtmckbecegiegaaaATreeDraw
namespace Go.Proofs.Ytmckbecegiegaaa.Pure
open Go.RowKit Go.Proofs.Ytmckbecegiegaaa.A Go.Proofs.YtmckbecegiegaaaW.PrintWords Go.Proofs.YtmckbecegiegaaaM Go.Proofs.YtmckbecegiegaaaAT

theorem small_out (n : Nat) (L : List S75) (w : Nat) : ∀ (d x : Nat),
    ((smallN n L w d x).2 = 0 ∧ ∃ y : Nat, (smallN n L w d x).1 = y ∧ x ≤ y ∧ y < x + d ∧ (firstN n L y w).2.2 = 0 ∧ ∀ z, x ≤ z → z < y → (firstN n L z w).2.2 = 3) ∨ (smallN n L w d x).2 = 10 ∨
    ((smallN n L w d x).2 = 3 ∧ ∀ z, x ≤ z → z < x + d → (firstN n L z w).2.2 = 3)
  | 0, x => .inr (.inr ⟨rfl, fun z h1 h2 => by omega⟩)
  | d + 1, x => by
    unfold smallN
    by_cases q : (firstN n L x w).2.2 = 0
    · rw [if_pos q]
      exact .inl ⟨rfl, x, rfl, by omega, by omega, q, fun z h1 h2 => by omega⟩
    · rw [if_neg q]
      by_cases q2 : (firstN n L x w).2.2 = 10
      · rw [if_pos q2]; exact .inr (.inl rfl)
      · rw [if_neg q2]
        have q3 : (firstN n L x w).2.2 = 3 := by
          rcases firstN_code n L x w with h | ⟨_, h⟩ | ⟨_, h⟩
          · exact absurd h q
          · exact absurd h q2
          · exact h
        rcases small_out n L w d (x + 1) with ⟨h, y, h1, h2, h3, h4, h5⟩ | h | ⟨h, h5⟩
        · refine .inl ⟨h, y, h1, by omega, by omega, h4, fun z z1 z2 => ?_⟩
          by_cases e : z = x
          · rw [e]; exact q3
          · exact h5 z (by omega) z2
        · exact .inr (.inl h)
        · refine .inr (.inr ⟨h, fun z z1 z2 => ?_⟩)
          by_cases e : z = x
          · rw [e]; exact q3
          · exact h5 z (by omega) (by omega)

theorem a2byte (l : List Int) (hs : ∀ x ∈ l, 0 ≤ x ∧ x ≤ 255) : ∃ t : Nat, t ≤ 8 ∧ laws_a2Byte.f l 0 9 = some (t : Int) := by
  unfold laws_a2Byte.f
  by_cases q : (0 : Int) ≥ (l.length : Int)
  · rw [if_pos q]; exact ⟨0, by omega, rfl⟩
  · have hb := rd_b l hs 0 (by omega) (by omega)
    rw [if_neg q, if_pos (by omega), if_pos (by omega), if_neg (by omega), w64 (by omega) (by omega)]
    refine ⟨(Int.tmod (rd l 0) 9).toNat, ?_, ?_⟩
    · rw [Int.tmod_eq_emod_of_nonneg hb.1]; omega
    · rw [Int.tmod_eq_emod_of_nonneg hb.1]
      congr 1
      omega

theorem j3_ev (n : Nat) (L : List S75) (hl : L.length ≤ 1048576) (hv : vT (n : Int) L = true) (y : Nat) (y1 : 1 ≤ y) (y9 : y ≤ 9) (h0 : (firstN n L y 3000).2.2 = 0) (h3 : ∀ z, 1 ≤ z → z < y → (firstN n L z 3000).2.2 = 3) :
    Ev (fun k => laws_FnPackings.j3 k (y : Int) false (n : Int) L) true := by
  have F : ∀ z : Nat, 1 ≤ z → z ≤ 9 → Ev (fun k => impl_FirstPacking.f k (n : Int) L (z : Int) 3000) (firstN n L z 3000) := by
    intro z z1 z9
    have := impl_firstP (n : Int) L hl (z : Int) 3000
    unfold firstP at this
    rw [hv, if_pos rfl, if_pos (by simp; omega), if_pos (by simp)] at this
    exact this
  refine ev_succ ?_
  simp only [laws_FnPackings.j3, Bool.false_eq_true, if_false]
  refine Ev.bind (F y y1 y9) (ev_pos h0 ?_)
  by_cases q : y = 1
  · refine ev_pos (by omega) ?_
    rw [h0]
    exact Ev.now _
  · refine ev_neg (by omega) ?_
    have hw : wrap64 ((y : Int) - 1) = ((y - 1 : Nat) : Int) := by rw [w64 (by omega) (by omega)]; omega
    rw [hw]
    clear hw
    refine Ev.bind (F (y - 1) (by omega) (by omega)) ?_
    rw [h3 (y - 1) (by omega) (by omega)]
    exact Ev.now _

theorem j2_ev (n : Nat) (L : List S75) (hl : L.length ≤ 1048576) (hv : vT (n : Int) L = true) (x : Nat) (x1 : 1 ≤ x) (x9 : x ≤ 9) :
    Ev (fun k => laws_FnPackings.j2 k (x : Int) ((firstN n L x 3000).2.2) (n : Int) L) true := by
  have S : Ev (fun k => impl_SmallestSide.f k (n : Int) L 9 3000) (smallN n L 3000 9 1) := by
    have := impl_smallP (n : Int) L hl 9 3000
    unfold smallP at this
    rw [hv, if_pos rfl, if_pos (by simp), if_pos (by simp)] at this
    exact this
  have hc := firstN_code n L x 3000
  refine ev_succ ?_
  simp only [laws_FnPackings.j2]
  refine Ev.bind S ?_
  rcases small_out n L 3000 9 1 with ⟨h, y, h1, h2, h3, h4, h5⟩ | h | ⟨h, h5⟩
  · refine ev_pos h ?_
    rw [h1]
    have J := j3_ev n L hl hv y h2 (by omega) h4 h5
    by_cases q : (firstN n L x 3000).2.2 = 0
    · refine ev_pos q ?_
      have : y ≤ x := by
        rcases Nat.lt_or_ge x y with g | g
        · have := h5 x x1 g; rw [q] at this; cases this
        · exact g
      refine ev_neg (by omega) (ev_neg (by rw [q]; omega) J)
    · refine ev_neg q ?_
      by_cases q3 : (firstN n L x 3000).2.2 = 3
      · refine ev_pos q3 ?_
        have : ((y : Int) == (x : Int)) = false := by
          rw [beq_eq_false_iff_ne]
          intro e
          have : y = x := by omega
          subst this
          exact q h4
        rw [this]
        exact J
      · exact ev_neg q3 J
  · exact ev_neg (by rw [h]; omega) (ev_pos h (Ev.now _))
  · refine ev_neg (by rw [h]; omega) (ev_neg (by rw [h]; omega) (ev_pos h ?_))
    rw [h5 x x1 (by omega)]
    exact Ev.now _

theorem turn_loop (n : Nat) (L : List S75) (x : Nat) (x9 : x ≤ 40) (S : List S37) (hS : S.length ≤ 16) (c d : Int) (P : List S63) (R : Bool) (h : Ev (fun k => (impl_ActivePairs.f k (n : Int) L (x : Int) (S.map (trn (x : Int)))).bind fun bt618 => (if d = 0 then (if bt618.2 = 0 then (if (bt618.1.length : Int) = (P.length : Int) then (laws_FnPackings.j2 k (x : Int) c (n : Int) L) else (some false)) else (some false)) else (some false))) R) :
    ∀ (m i : Nat), i + m = S.length → Ev (fun k => laws_FnPackings.l0 k (x : Int) S c P d ((S.take i).map (trn (x : Int))) (i : Int) (n : Int) L) R
  | 0, i, hi => by
    refine ev_succ ?_
    simp only [laws_FnPackings.l0]
    rw [List.take_of_length_le (by omega)]
    exact ev_neg (by omega) h
  | m + 1, i, hi => by
    refine ev_succ ?_
    simp only [laws_FnPackings.l0, wnext i (by omega)]
    refine ev_pos (by omega) (ev_pos (by omega) (ev_pos (by simp; omega) ?_))
    have e : (S.take i).map (trn (x : Int)) ++ [(⟨(rd_T37 S (i : Int)).f1, wrap64 ((x : Int) - (rd_T37 S (i : Int)).f0)⟩ : S37)] = (S.take (i + 1)).map (trn (x : Int)) := by
      rw [List.take_succ_eq_append_getElem (by omega : i < S.length), List.map_append, rd68 S i (by omega)]
      rfl
    rw [e]
    clear e
    exact turn_loop n L x x9 S hS c d P R h m (i + 1) (by omega)

theorem FnPackings : laws_FnPackings.Pure := by
  intro x0 x1 ⟨_, h0⟩ ⟨_, h1⟩
  have b : ∀ l : List Int, (∀ y ∈ l, (Lit.int .u8 y).wf = true) → ∀ y ∈ l, 0 ≤ y ∧ y ≤ 255 := by
    intro l h y hy
    have g : (decide ((0 : Int) ≤ y) && decide (y ≤ 255)) = true := h y hy
    simp only [Bool.and_eq_true, decide_eq_true_iff] at g
    exact g
  have b0 := b x0 h0
  have b1 := b x1 h1
  unfold laws_FnPackings.f
  refine Ev.rounds ?_
  unfold laws_a2Long.f
  by_cases q : (x0.length : Int) > 3000
  · rw [if_pos q]; exact ev_bindc rfl (ev_pos rfl (Ev.now _))
  rw [if_neg q]
  refine ev_bindc rfl ?_
  by_cases q1 : (x1.length : Int) > 3000
  · exact ev_pos (by simpa using q1) (Ev.now _)
  refine ev_neg (by simpa using q1) ?_
  obtain ⟨n, L, n2, n6, hl, hv, T⟩ := a2tree x0 b0
  obtain ⟨t, t8, B⟩ := a2byte x1 b1
  refine Ev.bind T (ev_bindc B ?_)
  have hw : wrap64 (1 + (t : Int)) = ((t + 1 : Nat) : Int) := by rw [w64 (by omega) (by omega)]; omega
  simp only [hw]
  clear hw B
  have hx : 1 ≤ t + 1 ∧ t + 1 ≤ 9 := by omega
  generalize t + 1 = x at *
  have hl' : L.length ≤ 1048576 := by omega
  have F : Ev (fun k => impl_FirstPacking.f k (n : Int) L (x : Int) 3000) (firstN n L x 3000) := by
    have := impl_firstP (n : Int) L hl' (x : Int) 3000
    unfold firstP at this
    rw [hv, if_pos rfl, if_pos (by simp; omega), if_pos (by simp)] at this
    exact this
  have J := j2_ev n L hl' hv x hx.1 hx.2
  refine Ev.bind F ?_
  by_cases c : (firstN n L x 3000).2.2 = 0
  · refine ev_pos c ?_
    obtain ⟨l, f, fw⟩ := firstN_ok n L x 3000 c
    have flen := firstN_len n (by omega) L x 3000
    have fl := f.len
    have fk := f.wk
    rw [c] at J
    simp only [c]
    generalize (firstN n L x 3000).1 = S at *
    have hin : ∀ j : Nat, j < S.length → inb (x : Int) (rd_T37 S (j : Int)) = true := fun j hj => (f.ok j (Nat.zero_le _) (by omega)).1
    have V : vP (n : Int) L (x : Int) S = true := by
      unfold vP
      simp only [Int.toNat_natCast, Bool.and_eq_true, decide_eq_true_iff]
      exact ⟨hv, by omega, by omega, packFrom_all _ _ _ _ 0 (fun j h1 h2 => f.ok j h1 (by omega))⟩
    have V2 : vP (n : Int) L (x : Int) (S.map (trn (x : Int))) = true := by
      unfold vP
      simp only [Int.toNat_natCast, Bool.and_eq_true, decide_eq_true_iff, List.length_map]
      refine ⟨hv, by omega, by omega, packFrom_all _ _ _ _ 0 (fun j h1 h2 => ?_)⟩
      rw [rd_trn _ S j (by omega), rowOk_trn (x : Int) (by omega) _ S hin j (by omega) j 0 (by omega)]
      exact ⟨inb_trn _ (by omega) _ (hin j (by omega)), (f.ok j h1 (by omega)).2⟩
    have A1 := impl_active n L hl' (x : Int) S (by omega) V
    have A2 := impl_active n L hl' (x : Int) (S.map (trn (x : Int))) (by simp; omega) V2
    have eP := allP_ext (distOf n L (leavesL n L)) (S.map (trn (x : Int))) S (leavesL n L) S.length (fun i j hi hj => by
      rw [rd_trn _ S i hi, rd_trn _ S j hj]; exact sq_trn _ (by omega) _ _ (hin i hi) (hin j hj)) S.length 0 [] (by omega)
    rw [List.length_map, eP] at A2
    refine ev_neg (by rw [fw]; omega) (ev_neg (by rw [fw]; omega) (Ev.bind (impl_valid (n : Int) L hl' (x : Int) S (by omega)) ?_))
    rw [V]
    refine ev_succ ?_
    simp only [laws_FnPackings.j0, Bool.not_true, Bool.false_eq_true, if_false]
    refine Ev.bind A1 ?_
    exact turn_loop n L x (by omega) S flen 0 0 _ true (Ev.bind A2 (ev_pos rfl (ev_pos rfl (ev_pos rfl J)))) S.length 0 (by omega)
  · exact ev_neg c J

end Go.Proofs.Ytmckbecegiegaaa.Pure
