/- The law FnTrees holds. -/
import Derived.Test.YtkimeoknckohfaaDoorR1TrF
namespace Go.Proofs.YtkimeoknckohfaaDoor.R
open Go.Proofs.YtkimeoknckohfaaDoor.R1

abbrev Met (n : Nat) (L : List S71) : Prop := TMet (n : Int) (fun v => (ed L v).f0) (fun v => (ed L v).f2) (DD n L) (BB n L)

theorem row_at {n : Nat} {L : List S71} {lv : List Int} {i : Nat} (h : i < lv.length) : (distOf n L lv)[i]? = some (distRow n L lv (rd lv (i : Int))) := by
  simp [distOf, rdI lv i h, h]

theorem row_get {n : Nat} {L : List S71} {lv : List Int} {j : Nat} (h : j < lv.length) (r : Int) : getI (distRow n L lv r) (j : Int) = some (DD n L r (rd lv (j : Int))) := by
  rw [getI_nat]; simp [distRow, rdI lv j h, h, DD]

theorem lv_in {n : Nat} {lv : List Int} (hm : ∀ x ∈ lv, 0 ≤ x ∧ x < n) {i : Nat} (hi : i < lv.length) : 0 ≤ rd lv (i : Int) ∧ rd lv (i : Int) < n := by
  rw [rdI lv i hi]; exact hm _ (List.getElem_mem hi)

theorem lv_at {lv : List Int} {i : Nat} (hi : i < lv.length) : lv[i]? = some (rd lv (i : Int)) := by
  rw [rdI lv i hi]; exact List.getElem?_eq_getElem hi

theorem a2b (k : Nat) {s : List Int} (hs : Bytes s) (a : Nat) (N : Nat) (N0 : 1 ≤ N) (N1 : N ≤ 16) : ∃ r : Nat, f13 k s (a : Int) (N : Int) = some (((r : Int), ()), ()) ∧ r < N := by
  unfold f13
  by_cases c : (s.length : Int) ≤ a
  · exact ⟨0, by rw [decide_eq_true (show (a : Int) ≥ (s.length : Int) from c)]; rfl, by omega⟩
  · have hlt : a < s.length := by omega
    have hb := hs s[a] (List.getElem_mem hlt)
    have h1 := Int.emod_nonneg s[a] (show (N : Int) ≠ 0 by omega)
    have h2 := Int.emod_lt_of_pos s[a] (show (0 : Int) < N by omega)
    refine ⟨(s[a] % (N : Int)).toNat, ?_, by omega⟩
    rw [decide_eq_false (show ¬ (a : Int) ≥ (s.length : Int) from c), cond_false, getI_nat, List.getElem?_eq_getElem hlt, Option.bind_some, decide_eq_false (by omega), cond_false, wr_id (by omega) (by omega), Int.tmod_eq_emod_of_nonneg hb.1, Int.toNat_of_nonneg h1]

section
variable {ρ : Type} {n : Nat} (h1 : n ≤ 16) {L : List S71} (hl : L.length ≤ 1000) (hv : vT (n : Int) L = true) (M : Met n L) (hL : ∀ e ∈ L, GE n e) {lv : List Int} (hlv : lv.length ≤ 16) (hm : ∀ x ∈ lv, 0 ≤ x ∧ x < n) {k : Nat} (hk : 1100 ≤ k) (s : List Int)

include hv M hk in
theorem walk_loop (D : List (List Int)) (N x10 x11 : Int) (W : List Int) (hW : W.length ≤ 1000) (y T : Int) (y0 : 0 ≤ y) (y1 : y < n) (T1 : T ≤ 320) (nx) :
    ∀ (m : Nat) (v : Int) (i : Nat) (j : Nat), 1 ≤ i → i ≤ W.length → W.drop i = path (tab n L y).2 y m v → (W[i - 1]? = some v) → 0 ≤ v → v < n → DD n L y v < m → DD n L y v ≤ T → m < j →
      f3_l26 (ρ := ρ) k j s N x10 x11 (T - DD n L y v) (i : Int) (n : Int) L lv D W nx = nx.1 ((s, (), (), (), N, x10, x11, (), T, ()), (((n : Int), L, ()), lv, D, W, ()))
  | 0, v, i, j, _, _, _, _, v0, v1, hd, _, _ => by have := M.pos y v y0 y1 v0 v1; omega
  | m + 1, v, i, j, j1, jl, hp, hr, v0, v1, hd, hT, hj => by
    obtain ⟨j, rfl⟩ : ∃ q, j = q + 1 := ⟨j - 1, by omega⟩
    by_cases e : v = y
    · subst e
      have z := M.zero v v0 v1
      have hi : i = W.length := by
        have := congrArg List.length hp
        simp [path] at this
        omega
      simp only [f3_l26]
      rw [z, Int.sub_zero, hi, dnlt (by omega), cond_false]
    · have hp' : W.drop i = BB n L y v :: path (tab n L y).2 y m (BB n L y v) := by
        rw [hp, path, if_neg e]; rfl
      have hlt : i < W.length := lt_cons hp'
      have hb := M.step y v y0 y1 v0 v1 e
      have nx' := M.next y v y0 y1 v0 v1 e
      have ps := M.pos y (BB n L y v) y0 y1 hb.1 hb.2.1
      have pv := M.far v (BB n L y v) v0 v1 hb.1 hb.2.1 (fun q => by
        have := M.zero v v0 v1
        rw [q] at nx'
        rcases hb.2.2 with ⟨a, b, c⟩ | ⟨a, b, c⟩
        · have := M.pr v a v1
          omega
        · have := M.pr _ a hb.2.1
          omega)
      have ih := walk_loop D N x10 x11 W hW y T y0 y1 T1 nx m (BB n L y v) (i + 1) j (by omega) (by omega) (next_cons hp') (by rw [Nat.add_sub_cancel]; exact at_cons hp') hb.1 hb.2.1 (by omega) (by omega) (by omega)
      have hw : wr .i64 ((i : Int) - 1) = ((i - 1 : Nat) : Int) := by rw [wr_id (by omega) (by omega)]; omega
      simp only [f3_l26, in_cons hp', cond_true, hw, Int.toNat_natCast, hr, Option.bind_some, at_cons hp', dist_ev hv hk v0 v1 hb.1 hb.2.1, wr_succ (show i < 4611686018427387904 by omega)]
      rw [bn (by omega) (by omega), cond_true, show decide (0 ≤ (i : Int)) = true from dle (by omega), Bool.and_self, cond_true]
      rw [wr_id (by omega) (by omega), show T - DD n L y v + DD n L v (BB n L y v) = T - DD n L y (BB n L y v) by omega]
      exact ih

include h1 hv M hL hlv hm hk in
theorem pair_loop (i : Nat) (hi : i < lv.length) (nx) : ∀ (d jj : Nat) (j : Nat), jj + d = lv.length → d < j →
    f3_l21 (ρ := ρ) k j s (lv.length : Int) (i : Int) (jj : Int) (n : Int) L lv (distOf n L lv) nx = nx.1 ((s, (), (), (), (lv.length : Int), (i : Int), ()), (((n : Int), L, ()), lv, distOf n L lv, ()))
  | 0, jj, j, hj, hf => by
    obtain ⟨j, rfl⟩ : ∃ q, j = q + 1 := ⟨j - 1, by omega⟩
    simp only [f3_l21]
    rw [dnlt (by omega), cond_false]
  | d + 1, jj, j, hj, hf => by
    obtain ⟨j, rfl⟩ : ∃ q, j = q + 1 := ⟨j - 1, by omega⟩
    have hjl : jj < lv.length := by omega
    have X := lv_in hm hi
    have Y := lv_in hm hjl
    have ih := pair_loop i hi nx d (jj + 1) j (by omega) (by omega)
    have dl := distOf_len n L lv
    have hT := DD_le n h1 L hL (rd lv (jj : Int)) (rd lv (i : Int)) Y.1 Y.2 X.1 X.2
    have sy := M.sym (rd lv (i : Int)) (rd lv (jj : Int)) X.1 X.2 Y.1 Y.2
    have pl := path_len (tab n L (rd lv (jj : Int))).2 (rd lv (jj : Int)) 400 (rd lv (i : Int))
    have wl := fun nx => walk_loop (ρ := ρ) hv M (lv := lv) hk s (distOf n L lv) (lv.length : Int) (i : Int) (jj : Int) (rd lv (i : Int) :: path (tab n L (rd lv (jj : Int))).2 (rd lv (jj : Int)) 400 (rd lv (i : Int))) (by simp; omega) (rd lv (jj : Int)) (DD n L (rd lv (jj : Int)) (rd lv (i : Int))) Y.1 Y.2 hT nx 400 (rd lv (i : Int)) 1 k (by omega) (by simp) rfl rfl X.1 X.2 (by omega) (by omega) (by omega)
    rw [Int.sub_self, show ((1 : Nat) : Int) = 1 from rfl] at wl
    have hrow := row_at (n := n) (L := L) hi
    have hrow' := row_at (n := n) (L := L) hjl
    have g1 := row_get (n := n) (L := L) hjl (rd lv (i : Int))
    have g2 := row_get (n := n) (L := L) hi (rd lv (jj : Int))
    have a1 := lv_at hi
    have a2 := lv_at hjl
    simp only [f3_l21]
    rw [dlt (by omega), cond_true, bn (show 0 ≤ (i : Int) by omega) (show (i : Int) < lv.length by omega), cond_true, Int.toNat_natCast, a1, Option.bind_some]
    rw [show decide (0 ≤ (jj : Int)) = true from dle (by omega), Bool.and_self, cond_true, Int.toNat_natCast, a2, Option.bind_some]
    rw [way_ev hv hk X.1 X.2 Y.1 Y.2, Option.bind_some, wl]
    generalize path (tab n L (rd lv (jj : Int))).2 (rd lv (jj : Int)) 400 (rd lv (i : Int)) = P at *
    simp only [Int.toNat_natCast]
    rw [show (((rd lv (i : Int) :: P).length : Int) == 0) = false by rw [beq_eq_false_iff_ne]; simp only [List.length_cons]; omega, cond_false]
    rw [bn (show 0 ≤ (i : Int) by omega) (show (i : Int) < (distOf n L lv).length by omega), cond_true, hrow, Option.bind_some, g1, Option.bind_some]
    rw [show (DD n L (rd lv (jj : Int)) (rd lv (i : Int)) != DD n L (rd lv (i : Int)) (rd lv (jj : Int))) = false by rw [sy]; simp, cond_false, cond_true, Option.bind_some, g1, Option.bind_some]
    rw [bn (show 0 ≤ (jj : Int) by omega) (show (jj : Int) < (distOf n L lv).length by omega), cond_true, hrow', Option.bind_some, g2, Option.bind_some]
    rw [show (DD n L (rd lv (i : Int)) (rd lv (jj : Int)) != DD n L (rd lv (jj : Int)) (rd lv (i : Int))) = false by rw [sy]; simp, cond_false]
    rw [bn (show 0 ≤ (i : Int) by omega) (show (i : Int) < lv.length by omega), cond_true, a1, Option.bind_some]
    rw [bn (show 0 ≤ (jj : Int) by omega) (show (jj : Int) < lv.length by omega), cond_true, a2, Option.bind_some]
    rw [dist_ev hv hk X.1 X.2 Y.1 Y.2, Option.bind_some]
    simp only []
    rw [show (DD n L (rd lv (i : Int)) (rd lv (jj : Int)) != DD n L (rd lv (jj : Int)) (rd lv (i : Int))) = false by rw [sy]; simp, cond_false, wr_succ (show jj < 4611686018427387904 by omega)]
    exact ih

include h1 hv M hL hlv hm hk in
theorem pairs_loop (nx) : ∀ (d i : Nat) (j : Nat), i + d = lv.length → d < j →
    f3_l18 (ρ := ρ) k j s (lv.length : Int) (i : Int) (n : Int) L lv (distOf n L lv) nx = nx.1 ((s, (), (lv.length : Int), ()), (distOf n L lv, ()))
  | 0, i, j, hi, hf => by
    obtain ⟨j, rfl⟩ : ∃ q, j = q + 1 := ⟨j - 1, by omega⟩
    simp only [f3_l18]
    rw [dnlt (by omega), cond_false]
  | d + 1, i, j, hi, hf => by
    obtain ⟨j, rfl⟩ : ∃ q, j = q + 1 := ⟨j - 1, by omega⟩
    have hp := fun nx => pair_loop (ρ := ρ) h1 hv M hL hlv hm hk s i (by omega) nx lv.length 0 k (by omega) (by omega)
    rw [show ((0 : Nat) : Int) = 0 from rfl] at hp
    simp only [f3_l18]
    rw [dlt (by omega), cond_true, hp]
    simp only []
    rw [wr_succ (show i < 4611686018427387904 by omega)]
    exact pairs_loop nx d (i + 1) j (by omega) (by omega)

include hlv in
theorem rows_loop (nx) : ∀ (d i : Nat) (j : Nat), i + d = lv.length → d < j →
    f3_l13 (ρ := ρ) k j s (lv.length : Int) (i : Int) (n : Int) L lv (distOf n L lv) nx = nx.1 ((s, (), (), (), (lv.length : Int), ()), (((n : Int), L, ()), lv, distOf n L lv, ()))
  | 0, i, j, hi, hf => by
    obtain ⟨j, rfl⟩ : ∃ q, j = q + 1 := ⟨j - 1, by omega⟩
    simp only [f3_l13]
    rw [dnlt (by omega), cond_false]
  | d + 1, i, j, hi, hf => by
    obtain ⟨j, rfl⟩ : ∃ q, j = q + 1 := ⟨j - 1, by omega⟩
    have dl := distOf_len n L lv
    have hrow := row_at (n := n) (L := L) (lv := lv) (i := i) (by omega)
    simp only [f3_l13]
    rw [dlt (by omega), cond_true, bn (show 0 ≤ (i : Int) by omega) (show (i : Int) < (distOf n L lv).length by omega), cond_true, Int.toNat_natCast, hrow, Option.bind_some]
    rw [show (((distRow n L lv (rd lv (i : Int))).length : Int) != (lv.length : Int)) = false by simp [distRow], cond_false, wr_succ (show i < 4611686018427387904 by omega)]
    exact rows_loop nx d (i + 1) j (by omega) (by omega)
end

theorem long_ev (k : Nat) (s : List Int) : f4 k s [] = some ((decide (3000 < (s.length : Int)), ()), ()) := by
  unfold f4
  rw [show decide ((s.length : Int) > 3000) = decide (3000 < (s.length : Int)) from rfl]
  cases decide (3000 < (s.length : Int)) <;> rfl

set_option maxHeartbeats 4000000 in
theorem trees_law (s : List Int) (hs : Bytes s) : f3 5000 s = some ((true, ()), ()) := by
  unfold f3
  rw [long_ev, Option.bind_some]
  simp only []
  by_cases q : 3000 < (s.length : Int)
  · rw [decide_eq_true q, cond_true]
  rw [decide_eq_false q, cond_false]
  obtain ⟨n, L, n2, n10, hl, hv, G, T⟩ := a2draw s hs (by omega) 10 (by omega) (by omega) 20 (by omega) (by omega)
  have hk : 1100 ≤ 5000 := by omega
  obtain ⟨m, e, _, h1, _, hL, _, hr⟩ := vT_out hv
  obtain rfl : n = m := by omega
  have M : Met n L := met_of n L n2 G hr
  have l2 := leaves_two n L n2 G M
  have ll := leavesL_len n L
  rw [T 5000 hk, Option.bind_some]
  simp only []
  rw [out_ev hv hk, Option.bind_some, read_ev hv hk, Option.bind_some]
  simp only [Bool.not_true, cond_false]
  rw [same_ev (by omega) hk, Option.bind_some]
  simp only [Bool.not_true, cond_false]
  rw [leavesOf_ev hv hk, Option.bind_some, dists_ev hv hk, Option.bind_some]
  simp only [distOf_len]
  generalize hlv : leavesL n L = lv at *
  have hm : ∀ x ∈ lv, 0 ≤ x ∧ x < n := fun x hx => leavesL_mem (by rw [hlv]; exact hx)
  have hlen : lv.length ≤ 16 := by omega
  rw [show ((lv.length : Int) != (lv.length : Int)) = false by simp, cond_false, dnlt (by omega), cond_false]
  have hrows := fun nx => rows_loop (ρ := (Bool × Unit) × Unit) (n := n) (L := L) hlen (k := 5000) s nx lv.length 0 5000 (by omega) (by omega)
  have hpairs := fun nx => pairs_loop (ρ := (Bool × Unit) × Unit) h1 hv M hL hlen hm hk s nx lv.length 0 5000 (by omega) (by omega)
  rw [show ((0 : Nat) : Int) = 0 from rfl] at hrows hpairs
  rw [hrows]
  simp only []
  rw [hpairs]
  simp only []
  obtain ⟨a, ea, ha⟩ := a2b 5000 hs 0 lv.length (by omega) hlen
  obtain ⟨b, eb, hb⟩ := a2b 5000 hs 1 lv.length (by omega) hlen
  obtain ⟨c, ec, hc⟩ := a2b 5000 hs 2 lv.length (by omega) hlen
  obtain ⟨d, ed', hd⟩ := a2b 5000 hs 3 lv.length (by omega) hlen
  rw [show ((0 : Nat) : Int) = 0 from rfl] at ea
  rw [show ((1 : Nat) : Int) = 1 from rfl] at eb
  rw [show ((2 : Nat) : Int) = 2 from rfl] at ec
  rw [show ((3 : Nat) : Int) = 3 from rfl] at ed'
  have dl := distOf_len n L lv
  have ra := row_at (n := n) (L := L) ha
  have rb := row_at (n := n) (L := L) hb
  have rc := row_at (n := n) (L := L) hc
  rw [ea, Option.bind_some, eb, Option.bind_some, ec, Option.bind_some, ed', Option.bind_some]
  simp only [Int.toNat_natCast]
  have ba := bn (show 0 ≤ (a : Int) by omega) (show (a : Int) < (distOf n L lv).length by omega)
  have bb := bn (show 0 ≤ (b : Int) by omega) (show (b : Int) < (distOf n L lv).length by omega)
  have bc := bn (show 0 ≤ (c : Int) by omega) (show (c : Int) < (distOf n L lv).length by omega)
  rw [ba, cond_true, ra, Option.bind_some, row_get hb, Option.bind_some, bc, cond_true, rc, Option.bind_some, row_get hd, Option.bind_some, cond_true, Option.bind_some, row_get hc, Option.bind_some, bb, cond_true, rb, Option.bind_some, row_get hd, Option.bind_some, cond_true, Option.bind_some, row_get hd, Option.bind_some, cond_true, Option.bind_some, row_get hc, Option.bind_some]
  have A := lv_in hm ha
  have B := lv_in hm hb
  have C := lv_in hm hc
  have D := lv_in hm hd
  have F := M.four (rd lv (a : Int) + rd lv (b : Int) + rd lv (c : Int) + rd lv (d : Int)).toNat _ _ _ _ A.1 A.2 B.1 B.2 C.1 C.2 D.1 D.2 (by omega)
  have bab := DD_le n h1 L hL _ _ A.1 A.2 B.1 B.2
  have bcd := DD_le n h1 L hL _ _ C.1 C.2 D.1 D.2
  have bac := DD_le n h1 L hL _ _ A.1 A.2 C.1 C.2
  have bbd := DD_le n h1 L hL _ _ B.1 B.2 D.1 D.2
  have bad := DD_le n h1 L hL _ _ A.1 A.2 D.1 D.2
  have bbc := DD_le n h1 L hL _ _ B.1 B.2 C.1 C.2
  have pab := M.pos _ _ A.1 A.2 B.1 B.2
  have pcd := M.pos _ _ C.1 C.2 D.1 D.2
  have pac := M.pos _ _ A.1 A.2 C.1 C.2
  have pbd := M.pos _ _ B.1 B.2 D.1 D.2
  have pad := M.pos _ _ A.1 A.2 D.1 D.2
  have pbc := M.pos _ _ B.1 B.2 C.1 C.2
  unfold F4 at F
  clear ea eb ec ed' ra rb rc dl ba bb bc hrows hpairs T
  generalize DD n L (rd lv (a : Int)) (rd lv (b : Int)) = dab at *
  generalize DD n L (rd lv (c : Int)) (rd lv (d : Int)) = dcd at *
  generalize DD n L (rd lv (a : Int)) (rd lv (c : Int)) = dac at *
  generalize DD n L (rd lv (b : Int)) (rd lv (d : Int)) = dbd at *
  generalize DD n L (rd lv (a : Int)) (rd lv (d : Int)) = dad at *
  generalize DD n L (rd lv (b : Int)) (rd lv (c : Int)) = dbc at *
  rw [wr_id (x := dab + dcd) (by omega) (by omega), wr_id (x := dac + dbd) (by omega) (by omega), wr_id (x := dad + dbc) (by omega) (by omega)]
  generalize dab + dcd = u at *
  generalize dac + dbd = v at *
  generalize dad + dbc = w at *
  by_cases q1 : u ≤ v
  · rw [dle q1, cond_true]
    by_cases q2 : v = w
    · rw [show (v == w) = true by simpa using q2, cond_true]
    · rw [show (v == w) = false by simpa using q2, cond_false]
      by_cases q3 : v ≤ u
      · rw [dle q3, cond_true]
        by_cases q4 : u = w
        · rw [show (u == w) = true by simpa using q4, cond_true]
        · rw [show (u == w) = false by simpa using q4, cond_false, dle (show w ≤ u by omega), cond_true, show (u == v) = true by rw [beq_iff_eq]; omega]
      · exfalso; omega
  · rw [dnle (by omega), cond_false]
    by_cases q3 : v ≤ u
    · rw [dle q3, cond_true]
      by_cases q4 : u = w
      · rw [show (u == w) = true by simpa using q4, cond_true]
      · exfalso; omega
    · exfalso; omega

theorem bytes_of {s : List Int} (h : Ok (.sl (.int .u8)) s) : Bytes s := fun x hx => by
  have := h.2 x hx
  have g : (decide ((0 : Int) ≤ x) && decide (x ≤ 255)) = true := this
  simp only [Bool.and_eq_true, decide_eq_true_iff] at g
  exact g

theorem fnTrees_pure (s : List Int) (h : Ok (.sl (.int .u8)) s) : ∃ k, f3 k s = some ((true, ()), ()) := ⟨5000, trees_law s (bytes_of h)⟩
end Go.Proofs.YtkimeoknckohfaaDoor.R
