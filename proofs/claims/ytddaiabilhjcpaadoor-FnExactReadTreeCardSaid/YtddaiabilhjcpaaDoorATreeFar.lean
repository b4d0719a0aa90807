/- Both programs' distances from a node are what the passes over the edges leave ('tab'). -/
import Derived.Test.YtddaiabilhjcpaaDoorATreeTheory
import Derived.Test.YtddaiabilhjcpaaDoorAx7
import Derived.Test.YtddaiabilhjcpaaDoorAx2
namespace Go.Proofs.YtddaiabilhjcpaaDoorAT
open Go.RowKit Go.Proofs.YtddaiabilhjcpaaDoor.A Go.Proofs.YtddaiabilhjcpaaDoorW.PrintWords Go.Proofs.YtddaiabilhjcpaaDoorM

theorem rd71 (l : List S52) (n : Nat) (h : n < l.length) : rd_T52 l (n : Int) = l[n] := by
  simp [rd_T52, h]

/-- The edge at a place: one letter for it. -/
theorem at_edge (L : List S52) (i : Nat) (h : i < L.length) : ∃ e, rd_T52 L (i : Int) = e ∧ e ∈ L ∧ L.drop i = e :: L.drop (i + 1) :=
  ⟨L[i], rd71 L i h, List.getElem_mem h, List.drop_eq_getElem_cons h⟩

theorem stp_B {d b : List Int} {c : Bool} {e : S52} (h : 0 ≤ rd d e.f0) (h' : rd d e.f1 < 0) : stp (d, b, c) e = (d.set e.f1.toNat (rd d e.f0 + e.f2), b.set e.f1.toNat e.f0, true) := by
  unfold stp; rw [if_pos ⟨h, h'⟩]
theorem stp_A {d b : List Int} {c : Bool} {e : S52} (h : 0 ≤ rd d e.f1) (h' : rd d e.f0 < 0) : stp (d, b, c) e = (d.set e.f0.toNat (rd d e.f1 + e.f2), b.set e.f0.toNat e.f1, true) := by
  unfold stp; rw [if_neg (fun q => by simp only at q; omega), if_pos ⟨h, h'⟩]
theorem stp_0 {d b : List Int} {c : Bool} {e : S52} (h : rd d e.f0 < 0) (h' : rd d e.f1 < 0) : stp (d, b, c) e = (d, b, c) := by
  unfold stp; rw [if_neg (fun q => by simp only at q; omega), if_neg (fun q => by simp only at q; omega)]
theorem stp_1 {d b : List Int} {c : Bool} {e : S52} (h : 0 ≤ rd d e.f0) (h' : 0 ≤ rd d e.f1) : stp (d, b, c) e = (d, b, c) := by
  unfold stp; rw [if_neg (fun q => by simp only at q; omega), if_neg (fun q => by simp only at q; omega)]

theorem St.w {n : Nat} {L : List S52} {r : Int} {d b : List Int} (s : St n L r d b) (hn : n ≤ 16) {i l : Int} (h0 : 0 ≤ i) (h1 : i < n) (g0 : 1 ≤ l) (g1 : l ≤ 20) (hp : 0 ≤ rd d i) : wrap64 (rd d i + l) = rd d i + l := by
  have := s.bnd i h0 h1
  exact w64 (by omega) (by omega)

theorem reach_pass (n : Nat) (hn : n ≤ 16) (L : List S52) (hlen : L.length ≤ 1048576) (r : Int) (hr0 : 0 ≤ r) (hL : ∀ e ∈ L, GE n e) (R : List Int × List Int) :
    ∀ (m i : Nat) (d b : List Int) (c : Bool), i + m = L.length → St n L r d b →
      (∀ d' b' c', (L.drop i).foldl stp (d, b, c) = (d', b', c') → Ev (fun k => spec_l30Reach.l1 k d' b' c' (n : Int) L) R) →
      Ev (fun k => spec_l30Reach.l2 k d b c (i : Int) (n : Int) L) R
  | 0, i, d, b, c, hi, s, h => by
    refine ev_succ ?_
    simp only [spec_l30Reach.l2]
    exact ev_neg (by omega) (h d b c (by rw [List.drop_of_length_le (by omega)]; rfl))
  | m + 1, i, d, b, c, hi, s, h => by
    have hlt : i < L.length := by omega
    obtain ⟨e, he, hm, hd⟩ := at_edge L i hlt
    have g := hL e hm
    have hdl := s.dl
    have hbl := s.bl
    rw [hd, List.foldl_cons] at h
    clear hd
    obtain ⟨g0, g1, g2, g3, g4⟩ := id g
    refine ev_succ ?_
    simp only [spec_l30Reach.l2, he]
    refine ev_pos (by omega) (ev_pos (by omega) (ev_pos (by omega) (ev_pos (by omega) ?_)))
    by_cases hA : rd d e.f0 < 0
    · refine ev_pos hA (ev_pos (by omega) (ev_pos (by omega) (ev_succ ?_)))
      simp only [spec_l30Reach.j3, wnext i (by omega)]
      by_cases hB : rd d e.f1 < 0
      · refine ev_neg (by simp; omega) (ev_pos (by omega) (ev_pos (by omega) (ev_pos hB (ev_pos (by omega) (ev_pos (by omega) (ev_neg (by omega) ?_))))))
        rw [stp_0 hA hB] at h
        exact reach_pass n hn L hlen r hr0 hL R m (i + 1) d b c (by omega) s h
      · have hB' : 0 ≤ rd d e.f1 := by omega
        refine ev_pos (by simpa using hB') (ev_pos (by omega) (ev_pos (by omega) (ev_pos (by omega) (ev_pos (by omega) (ev_pos (by omega) ?_)))))
        rw [s.w hn (by omega) (by omega) g3 g4 hB']
        have hs := stp_ok (c := c) s hr0 e hm g
        rw [stp_A hB' hA] at h hs
        exact reach_pass n hn L hlen r hr0 hL R m (i + 1) _ _ _ (by omega) hs.1 h
    · have hA' : 0 ≤ rd d e.f0 := by omega
      refine ev_neg hA (ev_succ ?_)
      simp only [spec_l30Reach.j3, wnext i (by omega)]
      refine ev_neg (by simp) (ev_pos (by omega) (ev_pos (by omega) ?_))
      by_cases hB : rd d e.f1 < 0
      · refine ev_pos hB (ev_pos (by omega) (ev_pos (by omega) (ev_pos hA' (ev_pos (by omega) ?_))))
        rw [s.w hn (by omega) (by omega) g3 g4 hA']
        have hs := stp_ok (c := c) s hr0 e hm g
        rw [stp_B hA' hB] at h hs
        exact reach_pass n hn L hlen r hr0 hL R m (i + 1) _ _ _ (by omega) hs.1 h
      · refine ev_neg hB ?_
        rw [stp_1 hA' (by omega)] at h
        exact reach_pass n hn L hlen r hr0 hL R m (i + 1) d b c (by omega) s h

theorem reach_fin (n : Nat) (hn : n ≤ 16) (L : List S52) (hlen : L.length ≤ 1048576) (r : Int) (hr0 : 0 ≤ r) (hL : ∀ e ∈ L, GE n e) :
    ∀ (m : Nat) (d b : List Int), neg d < m → St n L r d b → Ev (fun k => spec_l30Reach.l1 k d b true (n : Int) L) (fin L m d b)
  | 0, d, b, h, _ => by omega
  | m + 1, d, b, h, s => by
    refine ev_succ ?_
    simp only [spec_l30Reach.l1, if_true]
    refine reach_pass n hn L hlen r hr0 hL _ L.length 0 d b false (by omega) s ?_
    intro d' b' c' e
    simp only [List.drop_zero] at e
    obtain ⟨i1, i2⟩ := pass_ok (n := n) (L := L) hr0 L d b false (fun e he => ⟨he, hL e he⟩) s
    rw [e] at i1 i2
    unfold fin
    rw [e]
    cases c' with
    | false =>
      rcases i2 with ⟨i2, _⟩ | ⟨_, i3⟩
      · simp only [Prod.mk.injEq] at i2
        obtain ⟨rfl, rfl, _⟩ := i2
        refine ev_succ ?_
        simp only [spec_l30Reach.l1]
        exact Ev.now _
      · cases i3
    | true =>
      rcases i2 with ⟨i2, _⟩ | ⟨i2, _⟩
      · simp only [Prod.mk.injEq] at i2
        exact absurd i2.2.2 (by simp)
      · simp only [if_true]
        exact reach_fin n hn L hlen r hr0 hL m d' b' (by simp only at i2; omega) i1

theorem reach_start (n : Nat) (hn : n ≤ 16) (L : List S52) (hlen : L.length ≤ 1048576) (r : Int) (hr0 : 0 ≤ r) (hr1 : r < n) (hL : ∀ e ∈ L, GE n e) :
    ∀ (m i : Nat), i + m = n → Ev (fun k => spec_l30Reach.l0 k r (List.replicate i (-1)) (List.replicate i (-1)) (i : Int) (n : Int) L) (tab n L r)
  | 0, i, hi => by
    have e : i = n := by omega
    subst e
    refine ev_succ ?_
    simp only [spec_l30Reach.l0]
    refine ev_neg (by omega) (ev_pos (by omega) (ev_pos (by simpa using hr1) ?_))
    refine reach_fin i hn L hlen r hr0 hL (i + 1) _ _ ?_ (St.start i L r hr0 hr1)
    have := neg_le ((List.replicate i (-1 : Int)).set r.toNat 0)
    simp at this
    omega
  | m + 1, i, hi => by
    refine ev_succ ?_
    simp only [spec_l30Reach.l0, List.length_replicate]
    refine ev_pos (by omega) (ev_pos (by omega) (ev_pos (by omega) ?_))
    rw [w64 (by omega) (by omega), show List.replicate i (-1 : Int) ++ [-1] = List.replicate (i + 1) (-1) from List.replicate_succ'.symm]
    exact reach_start n hn L hlen r hr0 hr1 hL m (i + 1) (by omega)

theorem reach_ev (n : Nat) (hn : n ≤ 16) (L : List S52) (hlen : L.length ≤ 1048576) (r : Int) (hr0 : 0 ≤ r) (hr1 : r < n) (hL : ∀ e ∈ L, GE n e) :
    Ev (fun k => spec_l30Reach.f k (n : Int) L r) (tab n L r) := reach_start n hn L hlen r hr0 hr1 hL n 0 (by omega)

theorem w01 : wrap64 (0 + 1) = 1 := by unfold wrap64; omega
theorem w12 : wrap64 (1 + 1) = 2 := by unfold wrap64; omega

theorem far_pass (n : Nat) (hn : n ≤ 16) (L : List S52) (hlen : L.length ≤ 1048576) (r : Int) (hr0 : 0 ≤ r) (hL : ∀ e ∈ L, GE n e) (R : List Int × List Int) :
    ∀ (m i : Nat) (d b : List Int) (c : Bool), i + m = L.length → St n L r d b →
      (∀ d' b' c', (L.drop i).foldl stp (d, b, c) = (d', b', c') → Ev (fun k => impl_Tree_far.l1 k d' b' c' (n : Int) L) R) →
      Ev (fun k => impl_Tree_far.l2 k d b c L (L.length : Int) (i : Int) (n : Int) L) R
  | 0, i, d, b, c, hi, s, h => by
    refine ev_succ ?_
    simp only [impl_Tree_far.l2]
    exact ev_neg (by first | omega | simp) (h d b c (by rw [List.drop_of_length_le (by first | omega | simp)]; rfl))
  | m + 1, i, d, b, c, hi, s, h => by
    have hlt : i < L.length := by omega
    obtain ⟨e, he, hm, hd⟩ := at_edge L i hlt
    have g := hL e hm
    have hdl := s.dl
    have hbl := s.bl
    rw [hd, List.foldl_cons] at h
    clear hd
    obtain ⟨g0, g1, g2, g3, g4⟩ := id g
    refine ev_succ ?_
    simp only [impl_Tree_far.l2, he]
    refine ev_pos (by first | omega | simp) (ev_pos (by first | omega | simp) (ev_pos (by first | omega | simp) (ev_succ ?_)))
    simp only [impl_Tree_far.l3, w01]
    refine ev_pos (by first | omega | simp) (ev_pos (by first | omega | simp) (ev_pos (by first | omega | simp) (ev_pos (by first | omega | simp) ?_)))
    by_cases hA : rd d e.f0 < 0
    · refine ev_neg (by first | omega | simp) (ev_succ ?_)
      simp only [impl_Tree_far.l3, w12]
      refine ev_pos (by first | omega | simp) (ev_neg (by first | omega | simp) (ev_pos (by first | omega | simp) (ev_pos (by first | omega | simp) (ev_pos (by first | omega | simp) ?_))))
      by_cases hB : rd d e.f1 < 0
      · refine ev_neg (by first | omega | simp) (ev_succ ?_)
        simp only [impl_Tree_far.l3, wnext i (by first | omega | simp)]
        refine ev_neg (by first | omega | simp) ?_
        rw [stp_0 hA hB] at h
        exact far_pass n hn L hlen r hr0 hL R m (i + 1) d b c (by first | omega | simp) s h
      · have hB' : 0 ≤ rd d e.f1 := by omega
        refine ev_pos (by first | omega | simp) (ev_pos (by first | omega | simp) (ev_pos (by first | omega | simp) (ev_pos hA (ev_pos (by first | omega | simp) ?_))))
        rw [s.w hn (by first | omega | simp) (by first | omega | simp) g3 g4 hB']
        refine ev_succ ?_
        simp only [impl_Tree_far.l3, wnext i (by first | omega | simp)]
        refine ev_neg (by first | omega | simp) ?_
        have hs := stp_ok (c := c) s hr0 e hm g
        rw [stp_A hB' hA] at h hs
        exact far_pass n hn L hlen r hr0 hL R m (i + 1) _ _ _ (by first | omega | simp) hs.1 h
    · have hA' : 0 ≤ rd d e.f0 := by omega
      refine ev_pos (by first | omega | simp) (ev_pos (by first | omega | simp) (ev_pos (by first | omega | simp) ?_))
      by_cases hB : rd d e.f1 < 0
      · refine ev_pos hB (ev_pos (by first | omega | simp) ?_)
        rw [s.w hn (by first | omega | simp) (by first | omega | simp) g3 g4 hA']
        have q1 : rd (d.set e.f1.toNat (rd d e.f0 + e.f2)) e.f1 = rd d e.f0 + e.f2 := rd_set_eq d e.f1 _ (by first | omega | simp)
        have q0 : rd (d.set e.f1.toNat (rd d e.f0 + e.f2)) e.f0 = rd d e.f0 := rd_set_ne d e.f1 e.f0 _ (by first | omega | simp) (by first | omega | simp) (by first | omega | simp)
        have hs := stp_ok (c := c) s hr0 e hm g
        rw [stp_B hA' hB] at h hs
        have hs1 := hs.1
        clear hs
        have hdl1 := hs1.dl
        have hbl1 := hs1.bl
        simp only at hdl1 hbl1
        generalize d.set e.f1.toNat (rd d e.f0 + e.f2) = d1 at *
        generalize b.set e.f1.toNat e.f0 = b1 at *
        refine ev_succ ?_
        simp only [impl_Tree_far.l3, w12]
        refine ev_pos (by first | omega | simp) (ev_neg (by first | omega | simp) (ev_pos (by first | omega | simp) (ev_pos (by first | omega | simp) (ev_pos (by first | omega | simp) (ev_pos (by first | omega | simp) (ev_pos (by first | omega | simp) (ev_pos (by first | omega | simp) (ev_neg (by first | omega | simp) (ev_succ ?_)))))))))
        simp only [impl_Tree_far.l3, wnext i (by first | omega | simp)]
        refine ev_neg (by first | omega | simp) ?_
        exact far_pass n hn L hlen r hr0 hL R m (i + 1) _ _ _ (by first | omega | simp) hs1 h
      · refine ev_neg hB (ev_succ ?_)
        simp only [impl_Tree_far.l3, w12]
        refine ev_pos (by first | omega | simp) (ev_neg (by first | omega | simp) (ev_pos (by first | omega | simp) (ev_pos (by first | omega | simp) (ev_pos (by first | omega | simp) (ev_pos (by first | omega | simp) (ev_pos (by first | omega | simp) (ev_pos (by first | omega | simp) (ev_neg (by first | omega | simp) (ev_succ ?_)))))))))
        simp only [impl_Tree_far.l3, wnext i (by first | omega | simp)]
        refine ev_neg (by first | omega | simp) ?_
        rw [stp_1 hA' (by first | omega | simp)] at h
        exact far_pass n hn L hlen r hr0 hL R m (i + 1) d b c (by first | omega | simp) s h

theorem far_fin (n : Nat) (hn : n ≤ 16) (L : List S52) (hlen : L.length ≤ 1048576) (r : Int) (hr0 : 0 ≤ r) (hL : ∀ e ∈ L, GE n e) :
    ∀ (m : Nat) (d b : List Int), neg d < m → St n L r d b → Ev (fun k => impl_Tree_far.l1 k d b true (n : Int) L) (fin L m d b)
  | 0, d, b, h, _ => by omega
  | m + 1, d, b, h, s => by
    refine ev_succ ?_
    simp only [impl_Tree_far.l1, if_true]
    refine far_pass n hn L hlen r hr0 hL _ L.length 0 d b false (by omega) s ?_
    intro d' b' c' e
    simp only [List.drop_zero] at e
    obtain ⟨i1, i2⟩ := pass_ok (n := n) (L := L) hr0 L d b false (fun e he => ⟨he, hL e he⟩) s
    rw [e] at i1 i2
    unfold fin
    rw [e]
    cases c' with
    | false =>
      rcases i2 with ⟨i2, _⟩ | ⟨_, i3⟩
      · simp only [Prod.mk.injEq] at i2
        obtain ⟨rfl, rfl, _⟩ := i2
        refine ev_succ ?_
        simp only [impl_Tree_far.l1]
        exact Ev.now _
      · cases i3
    | true =>
      rcases i2 with ⟨i2, _⟩ | ⟨i2, _⟩
      · simp only [Prod.mk.injEq] at i2
        exact absurd i2.2.2 (by simp)
      · simp only [if_true]
        exact far_fin n hn L hlen r hr0 hL m d' b' (by simp only at i2; omega) i1

theorem set_neg1 (d : List Int) (i n : Nat) (h : d.length = n) (hi : i < n) (hd : ∀ j, j < i → d[j]? = some (-1)) : ∀ j, j < i + 1 → (d.set i (-1))[j]? = some (-1) := by
  intro j hj
  by_cases e : j = i
  · subst e; simp [h, hi]
  · rw [List.getElem?_set_ne (by omega)]; exact hd j (by omega)

theorem all_neg1 (d : List Int) (n : Nat) (h : d.length = n) (hd : ∀ j, j < n → d[j]? = some (-1)) : d = List.replicate n (-1) := by
  apply List.ext_getElem?
  intro j
  by_cases q : j < n
  · rw [hd j q]; simp [q]
  · rw [List.getElem?_eq_none (by omega), List.getElem?_eq_none (by simp; omega)]

theorem far_start (n : Nat) (hn : n ≤ 16) (L : List S52) (hlen : L.length ≤ 1048576) (r : Int) (hr0 : 0 ≤ r) (hr1 : r < n) (hL : ∀ e ∈ L, GE n e) :
    ∀ (m i : Nat) (d b : List Int), i + m = n → d.length = n → b.length = n → (∀ j, j < i → d[j]? = some (-1)) → (∀ j, j < i → b[j]? = some (-1)) →
      Ev (fun k => impl_Tree_far.l0 k r d b (n : Int) (i : Int) (n : Int) L) (tab n L r)
  | 0, i, d, b, hi, hd, hb, kd, kb => by
    have e : i = n := by omega
    subst e
    rw [all_neg1 d i hd kd, all_neg1 b i hb kb]
    refine ev_succ ?_
    simp only [impl_Tree_far.l0]
    refine ev_neg (by omega) (ev_pos (by omega) (ev_pos (by simpa using hr1) ?_))
    refine far_fin i hn L hlen r hr0 hL (i + 1) _ _ ?_ (St.start i L r hr0 hr1)
    have := neg_le ((List.replicate i (-1 : Int)).set r.toNat 0)
    simp at this
    omega
  | m + 1, i, d, b, hi, hd, hb, kd, kb => by
    refine ev_succ ?_
    simp only [impl_Tree_far.l0, wnext i (by omega)]
    refine ev_pos (by omega) (ev_pos (by omega) (ev_pos (by omega) (ev_pos (by omega) ?_)))
    exact far_start n hn L hlen r hr0 hr1 hL m (i + 1) (d.set i (-1)) (b.set i (-1)) (by omega) (by simpa using hd) (by simpa using hb) (set_neg1 d i n hd (by omega) kd) (set_neg1 b i n hb (by omega) kb)

theorem far_ev (n : Nat) (hn : n ≤ 16) (L : List S52) (hlen : L.length ≤ 1048576) (r : Int) (hr0 : 0 ≤ r) (hr1 : r < n) (hL : ∀ e ∈ L, GE n e) :
    Ev (fun k => impl_Tree_far.f k (n : Int) L r) (tab n L r) := by
  have z := far_start n hn L hlen r hr0 hr1 hL n 0 (List.replicate n 0) (List.replicate n 0) (by omega) (by simp) (by simp) (fun j h => absurd h (Nat.not_lt_zero _)) (fun j h => absurd h (Nat.not_lt_zero _))
  unfold impl_Tree_far.f
  refine ev_pos (by omega) (ev_pos (by simp; omega) ?_)
  simp only [Int.toNat_natCast, Option.bind_some, List.length_replicate]
  exact z

end Go.Proofs.YtddaiabilhjcpaaDoorAT
