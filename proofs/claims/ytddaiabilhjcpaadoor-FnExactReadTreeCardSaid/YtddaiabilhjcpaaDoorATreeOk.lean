/- Both programs find the same trees valid. -/
import Derived.Test.YtddaiabilhjcpaaDoorATreeEq
import Derived.Test.YtddaiabilhjcpaaDoorAx8
import Derived.Test.YtddaiabilhjcpaaDoorAx5
namespace Go.Proofs.YtddaiabilhjcpaaDoorAT
open Go.RowKit Go.Proofs.YtddaiabilhjcpaaDoor.A Go.Proofs.YtddaiabilhjcpaaDoorW.PrintWords Go.Proofs.YtddaiabilhjcpaaDoorM

theorem has_ev (l : List Int) (hl : l.length ≤ 1048576) (a : Int) : ∀ (m i : Nat), i + m = l.length → Ev (fun k => spec_l00Has.l0 k l a (i : Int)) (decide (a ∈ l.drop i))
  | 0, i, hi => by
    refine ev_succ ?_
    simp only [spec_l00Has.l0]
    refine ev_neg (by omega) ?_
    rw [List.drop_of_length_le (by omega)]
    exact Ev.now _
  | m + 1, i, hi => by
    have hlt : i < l.length := by omega
    refine ev_succ ?_
    simp only [spec_l00Has.l0, wnext i (by omega)]
    refine ev_pos (by omega) (ev_pos (by omega) ?_)
    have hr : rd l (i : Int) = l[i] := by simp [rd, hlt]
    rw [hr, List.drop_eq_getElem_cons hlt]
    by_cases q : l[i] = a
    · refine ev_pos q ?_
      simp only [q, List.mem_cons, true_or, decide_true]
      exact Ev.now _
    · refine ev_neg q ?_
      have h := has_ev l hl a m (i + 1) (by omega)
      have e : decide (a ∈ l[i] :: l.drop (i + 1)) = decide (a ∈ l.drop (i + 1)) := by
        simp only [List.mem_cons, show ¬ a = l[i] from fun e => q e.symm, false_or]
      rw [e]; exact h

theorem min_ev (l : List Int) (hl : l.length ≤ 1048576) : ∀ (m i : Nat) (x : Int), i + m = l.length → ∃ v, Ev (fun k => slices_Min_int64_int64.l0 k l x (i : Int)) v ∧ (0 ≤ v ↔ 0 ≤ x ∧ ∀ y ∈ l.drop i, 0 ≤ y)
  | 0, i, x, hi => by
    refine ⟨x, ev_succ ?_, ?_⟩
    · simp only [slices_Min_int64_int64.l0]
      exact ev_neg (by omega) (Ev.now _)
    · rw [List.drop_of_length_le (by omega)]; simp
  | m + 1, i, x, hi => by
    have hlt : i < l.length := by omega
    have hr : rd l (i : Int) = l[i] := by simp [rd, hlt]
    obtain ⟨v, h1, h2⟩ := min_ev l hl m (i + 1) (mn x l[i]) (by omega)
    refine ⟨v, ev_succ ?_, ?_⟩
    · simp only [slices_Min_int64_int64.l0, wnext i (by omega), hr]
      exact ev_pos (by omega) (ev_pos (by omega) h1)
    · rw [h2, List.drop_eq_getElem_cons hlt]
      simp only [List.mem_cons, forall_eq_or_imp]
      unfold mn
      constructor
      · rintro ⟨a, b⟩; refine ⟨?_, ?_, b⟩ <;> (split at a <;> omega)
      · rintro ⟨a, b, c⟩; refine ⟨?_, c⟩; split <;> omega

def gE (n : Nat) (e : S52) : Bool := decide (0 ≤ e.f0) && decide (e.f0 < e.f1) && decide (e.f1 < n) && decide (1 ≤ e.f2) && decide (e.f2 ≤ 20)
theorem gE_iff (n : Nat) (e : S52) : gE n e = true ↔ GE n e := by unfold gE GE; simp [and_assoc]

def ltE (a b : S52) : Bool := decide (a.f0 < b.f0) || (decide (a.f0 = b.f0) && decide (a.f1 < b.f1))

def okFrom (n : Nat) (L : List S52) : Nat → Nat → Bool
  | 0, _ => true
  | d + 1, i => gE n (rd_T52 L (i : Int)) && ((decide (i = 0) || ltE (rd_T52 L ((i - 1 : Nat) : Int)) (rd_T52 L (i : Int))) && okFrom n L d (i + 1))

theorem okFrom_all (n : Nat) (L : List S52) : ∀ (d i : Nat), i + d = L.length → okFrom n L d i = true → ∀ e ∈ L.drop i, GE n e
  | 0, i, hi, _ => by rw [List.drop_of_length_le (by omega)]; intro e h; cases h
  | d + 1, i, hi, h => by
    obtain ⟨e, he, hm, hd⟩ := at_edge L i (by omega)
    simp only [okFrom, Bool.and_eq_true, he] at h
    rw [hd]
    intro e' h'
    rcases List.mem_cons.1 h' with rfl | h'
    · exact (gE_iff n _).1 h.1
    · exact okFrom_all n L d (i + 1) (by omega) h.2.2 e' h'

theorem in_iff (a b c : Int) : spec_l00In.f a b c = some (decide (b ≤ a) && decide (a ≤ c)) := by
  unfold spec_l00In.f
  by_cases h : b ≤ a
  · rw [if_pos h]; simp [h]
  · rw [if_neg h]; simp [h]
theorem within_iff (a b c : Int) : impl_within.f a b c = some (decide (b ≤ a) && decide (a ≤ c)) := by
  unfold impl_within.f
  by_cases h : b ≤ a
  · rw [if_pos h]; simp [h]
  · rw [if_neg h]; simp [h]

theorem edge_iff (n : Nat) (h0 : 2 ≤ n) (h1 : n ≤ 16) (e : S52) : spec_l30Edge.f e.f0 e.f1 e.f2 (n : Int) = some (gE n e) := by
  unfold spec_l30Edge.f gE
  rw [w64 (i := (n : Int) - 1) (by omega) (by omega)]
  simp only [in_iff, Option.bind_some]
  by_cases a : 0 ≤ e.f0 ∧ e.f0 ≤ (n : Int) - 1
  · have q : (decide (0 ≤ e.f0) && decide (e.f0 ≤ (n : Int) - 1)) = true := by simp [a.1, a.2]
    rw [if_pos q, w64 (i := e.f0 + 1) (by omega) (by omega)]
    by_cases b : e.f0 < e.f1 ∧ e.f1 < n
    · have q : (decide (e.f0 + 1 ≤ e.f1) && decide (e.f1 ≤ (n : Int) - 1)) = true := by simp; omega
      rw [if_pos q]
      simp [a.1, b.1, b.2]
    · have q : ¬ (decide (e.f0 + 1 ≤ e.f1) && decide (e.f1 ≤ (n : Int) - 1)) = true := by simp; omega
      rw [if_neg q]
      congr 1
      rcases Decidable.not_and_iff_or_not.1 b with c | c <;> simp [c]
  · have q : ¬ (decide (0 ≤ e.f0) && decide (e.f0 ≤ (n : Int) - 1)) = true := by simpa using a
    rw [if_neg q]
    congr 1
    symm
    simp only [Bool.and_eq_false_iff, decide_eq_false_iff_not]
    omega

theorem less_iff (a b : S52) : spec_l30Less.f a.f0 a.f1 a.f2 b.f0 b.f1 b.f2 = some (ltE a b) := by
  unfold spec_l30Less.f ltE
  by_cases h : a.f0 < b.f0
  · rw [if_pos h]; simp [h]
  · rw [if_neg h]
    by_cases h' : a.f0 = b.f0
    · rw [if_pos h']; simp [h']
    · rw [if_neg h']; simp [h, h']

/-- All nodes are reached from node 0. -/
def reachB (n : Nat) (L : List S52) : Bool := !(decide ((-1 : Int) ∈ (tab n L 0).1))

theorem reachB_iff (n : Nat) (L : List S52) (h0 : 0 < n) (hL : ∀ e ∈ L, GE n e) : reachB n L = true ↔ ∀ i : Int, 0 ≤ i → i < n → 0 ≤ rd (tab n L 0).1 i := by
  have d := tab_done n L 0 (by omega) (by omega) hL
  have hl := d.st.dl
  unfold reachB
  simp only [Bool.not_eq_true', decide_eq_false_iff_not]
  constructor
  · intro h i i0 i1
    rcases d.st.val i i0 i1 with q | q
    · exfalso; apply h
      have hlt : i.toNat < (tab n L 0).1.length := by omega
      have : rd (tab n L 0).1 i = (tab n L 0).1[i.toNat] := by simp [rd, hlt]
      rw [← q, this]; exact List.getElem_mem hlt
    · exact q
  · intro h hm
    obtain ⟨j, hj, e⟩ := List.getElem_of_mem hm
    have := h (j : Int) (by omega) (by omega)
    have e' : rd (tab n L 0).1 (j : Int) = (tab n L 0).1[j] := by simp [rd, hj]
    omega

def valB (n : Nat) (L : List S52) : Bool := okFrom n L L.length 0 && reachB n L

theorem tab_len (n : Nat) (L : List S52) (r : Int) (h0 : 0 ≤ r) (h1 : r < n) (hL : ∀ e ∈ L, GE n e) : (tab n L r).1.length = n := (tab_done n L r h0 h1 hL).st.dl

theorem specOk_loop (n : Nat) (h0 : 2 ≤ n) (h1 : n ≤ 16) (L : List S52) (hl : L.length ≤ 1048576) (R : Bool) (hR : (∀ e ∈ L, GE n e) → R = reachB n L) : ∀ (d i : Nat), i + d = L.length → (∀ e ∈ L.take i, GE n e) →
    Ev (fun k => spec_l30Ok.l0 k (i : Int) (n : Int) L) (okFrom n L d i && R)
  | 0, i, hi, hE => by
    have hE' : ∀ e ∈ L, GE n e := by rw [List.take_of_length_le (by omega)] at hE; exact hE
    refine ev_succ ?_
    simp only [spec_l30Ok.l0, okFrom, Bool.true_and]
    refine ev_neg (by omega) ?_
    refine Ev.bind (reach_ev n h1 L hl 0 (by omega) (by omega) hE') ?_
    have hlen := tab_len n L 0 (by omega) (by omega) hE'
    refine Ev.bind (has_ev (tab n L 0).1 (by omega) (-1) n 0 (by omega)) ?_
    rw [hR hE']
    exact Ev.now _
  | d + 1, i, hi, hE => by
    obtain ⟨e, he, hm, hd⟩ := at_edge L i (by omega)
    have hlt : i < L.length := by omega
    have hLi : L[i] = e := by rw [← he]; exact (rd71 L i hlt).symm
    refine ev_succ ?_
    simp only [spec_l30Ok.l0, okFrom, he, wnext i (by omega)]
    refine ev_pos (by omega) (ev_pos (by omega) (ev_bindc (edge_iff n h0 h1 e) ?_))
    cases hg : gE n e with
    | false => exact ev_neg (by simp) (by simp only [Bool.false_and]; exact Ev.now _)
    | true =>
      have hE2 : ∀ e ∈ L.take (i + 1), GE n e := by
        intro e' h'
        rw [List.take_succ_eq_append_getElem hlt, List.mem_append, List.mem_singleton, hLi] at h'
        rcases h' with h' | rfl
        · exact hE e' h'
        · exact (gE_iff n _).1 hg
      refine ev_pos rfl ?_
      simp only [Bool.true_and]
      by_cases z : i = 0
      · subst z
        refine ev_neg (by omega) ?_
        simp only [decide_true, Bool.true_or, Bool.true_and]
        exact specOk_loop n h0 h1 L hl R hR d 1 (by omega) hE2
      · refine ev_pos (by omega) ?_
        rw [show wrap64 ((i : Int) - 1) = ((i - 1 : Nat) : Int) from by rw [w64 (by omega) (by omega)]; omega]
        refine ev_pos (by omega) (ev_pos (by omega) (ev_bindc (less_iff _ _) ?_))
        simp only [z, decide_false, Bool.false_or]
        cases hg : ltE (rd_T52 L ((i - 1 : Nat) : Int)) e with
        | false => exact ev_neg (by simp) (by simp only [Bool.false_and]; exact Ev.now _)
        | true =>
          refine ev_pos rfl ?_
          simp only [Bool.true_and]
          exact specOk_loop n h0 h1 L hl R hR d (i + 1) (by omega) hE2

/-- A tree is valid. -/
def vT (a : Int) (L : List S52) : Bool := decide (2 ≤ a) && (decide (a ≤ 16) && (decide ((L.length : Int) = a - 1) && valB a.toNat L))

theorem vT_out {a : Int} {L : List S52} (h : vT a L = true) : ∃ n : Nat, a = n ∧ 2 ≤ n ∧ n ≤ 16 ∧ L.length = n - 1 ∧ (∀ e ∈ L, GE n e) ∧ okFrom n L L.length 0 = true ∧ ∀ i : Int, 0 ≤ i → i < n → 0 ≤ rd (tab n L 0).1 i := by
  unfold vT valB at h
  simp only [Bool.and_eq_true, decide_eq_true_iff] at h
  obtain ⟨h0, h1, h2, h3, h4⟩ := h
  have hL := okFrom_all a.toNat L L.length 0 (by omega) h3
  rw [List.drop_zero] at hL
  exact ⟨a.toNat, by omega, by omega, by omega, by omega, hL, h3, (reachB_iff a.toNat L (by omega) hL).1 h4⟩

theorem spec_ok (a : Int) (L : List S52) (hl : L.length ≤ 1048576) : Ev (fun k => spec_l30Ok.f k a L) (vT a L) := by
  unfold spec_l30Ok.f
  refine ev_bindc (in_iff a 2 16) ?_
  by_cases h : 2 ≤ a ∧ a ≤ 16
  · obtain ⟨n, rfl⟩ : ∃ n : Nat, a = n := ⟨a.toNat, by omega⟩
    refine ev_pos (by simp only [Bool.and_eq_true, decide_eq_true_iff]; exact h) (ev_succ ?_)
    simp only [spec_l30Ok.j0]
    rw [w64 (by omega) (by omega)]
    unfold vT
    simp only [h.1, h.2, decide_true, Bool.true_and]
    by_cases g : (L.length : Int) = (n : Int) - 1
    · refine ev_neg (by simp only [g, bne_self_eq_false]; simp) ?_
      simp only [g, decide_true, Bool.true_and, Int.toNat_natCast]
      exact specOk_loop n (by omega) (by omega) L hl _ (fun _ => rfl) L.length 0 (by omega) (by simp)
    · refine ev_pos (by simp only [bne_iff_ne]; exact g) ?_
      simp only [g, decide_false, Bool.false_and]
      exact Ev.now _
  · refine ev_neg (by simp only [Bool.and_eq_true, decide_eq_true_iff]; exact h) (ev_succ ?_)
    simp only [spec_l30Ok.j0, if_true]
    have : vT a L = false := by
      unfold vT
      rcases Decidable.not_and_iff_or_not.1 h with c | c <;> simp [c]
    rw [this]
    exact Ev.now _

theorem cmp_iff (a b : Int) : cmp_Compare_int64.f a b = some (if a < b then -1 else if b < a then 1 else 0) := by
  unfold cmp_Compare_int64.f cmp_isNaN_int64.f
  simp only [Option.bind_some, bne_self_eq_false, Bool.false_eq_true, if_false]
  by_cases h : a < b
  · simp only [h, if_true]
  · simp only [h, if_false]
    by_cases h' : b < a
    · rw [if_pos h', if_pos h']
    · rw [if_neg h', if_neg h']

theorem or2 (a b : Int) : Ev (fun k => cmp_Or_int.f k [a, b]) (if a = 0 then b else a) := by
  unfold cmp_Or_int.f
  refine ev_succ ?_
  simp only [cmp_Or_int.l0, List.length_cons, List.length_nil]
  refine ev_pos (by omega) (ev_pos (by omega) (ev_pos (by omega) ?_))
  rw [show rd [a, b] 0 = a from rfl]
  by_cases h : a = 0
  · refine ev_pos h ?_
    rw [if_pos h, show wrap64 (0 + 1) = 1 by unfold wrap64; omega]
    refine ev_succ ?_
    simp only [cmp_Or_int.l0, List.length_cons, List.length_nil]
    refine ev_pos (by omega) (ev_pos (by omega) (ev_pos (by omega) ?_))
    rw [show rd [a, b] 1 = b from rfl]
    by_cases h' : b = 0
    · refine ev_pos h' ?_
      rw [show wrap64 (1 + 1) = 2 by unfold wrap64; omega]
      refine ev_succ ?_
      simp only [cmp_Or_int.l0, List.length_cons, List.length_nil]
      rw [h']
      exact ev_neg (by omega) (Ev.now _)
    · exact ev_neg h' (Ev.now _)
  · refine ev_neg h ?_
    rw [if_neg h]
    exact Ev.now _

theorem areEdges_loop (n : Nat) (h0 : 2 ≤ n) (h1 : n ≤ 16) (L : List S52) (hl : L.length ≤ 1048576) : ∀ (d i : Nat), i + d = L.length →
    Ev (fun k => impl_Tree_areEdges.l0 k L (L.length : Int) (i : Int) (n : Int) L) (okFrom n L d i && decide ((L.length : Int) = (n : Int) - 1))
  | 0, i, hi => by
    refine ev_succ ?_
    simp only [impl_Tree_areEdges.l0, impl_TreeEdge.f, okFrom, Bool.true_and, Option.bind_some]
    rw [w64 (i := (n : Int) - 1) (by omega) (by omega)]
    refine ev_neg (by omega) ?_
    rw [show ((L.length : Int) == (n : Int) - 1) = decide ((L.length : Int) = (n : Int) - 1) from rfl]
    exact Ev.now _
  | d + 1, i, hi => by
    obtain ⟨e, he, hm, hd⟩ := at_edge L i (by omega)
    have hlt : i < L.length := by omega
    have bad : ∀ (x y : Int), Ev (fun k => impl_Tree_areEdges.j1 k (i : Int) L (L.length : Int) (i : Int) true (n : Int) L e.f0 x y) false := by
      intro x y
      refine ev_succ ?_
      simp only [impl_Tree_areEdges.j1, if_true]
      exact Ev.now _
    refine ev_succ ?_
    simp only [impl_Tree_areEdges.l0, okFrom, he]
    refine ev_pos (by omega) (ev_pos (by omega) (ev_pos (by omega) (ev_bindc (within_iff _ _ _) ?_)))
    rw [w64 (i := (n : Int) - 1) (by omega) (by omega)]
    by_cases c1 : 1 ≤ e.f1 ∧ e.f1 ≤ (n : Int) - 1
    · refine ev_pos (by simp only [Bool.and_eq_true, decide_eq_true_iff]; exact c1) (ev_bindc (within_iff _ _ _) ?_)
      rw [w64 (i := e.f1 - 1) (by omega) (by omega)]
      by_cases c2 : 0 ≤ e.f0 ∧ e.f0 ≤ e.f1 - 1
      · refine ev_pos (by simp only [Bool.and_eq_true, decide_eq_true_iff]; exact c2) (ev_bindc (within_iff _ _ _) ?_)
        have hg : gE n e = (decide (1 ≤ e.f2) && decide (e.f2 ≤ 20)) := by
          unfold gE
          simp only [show (0 : Int) ≤ e.f0 from c2.1, show e.f0 < e.f1 by omega, show e.f1 < (n : Int) by omega, decide_true, Bool.true_and]
        rw [hg]
        cases hb : (decide (1 ≤ e.f2) && decide (e.f2 ≤ 20)) with
        | false => simp only [Bool.false_and, Bool.not_false]; exact bad _ _
        | true =>
          simp only [Bool.true_and, Bool.not_true]
          refine ev_succ ?_
          simp only [impl_Tree_areEdges.j1, wnext i (by omega)]
          refine ev_neg (by simp) ?_
          by_cases z : i = 0
          · subst z
            refine ev_neg (by omega) ?_
            simp only [decide_true, Bool.true_or, Bool.true_and]
            exact areEdges_loop n h0 h1 L hl d 1 (by omega)
          · refine ev_pos (by omega) ?_
            rw [show wrap64 ((i : Int) - 1) = ((i - 1 : Nat) : Int) from by rw [w64 (by omega) (by omega)]; omega]
            refine ev_pos (by omega) (ev_pos (by omega) (ev_bindc (cmp_iff _ _) (ev_bindc (cmp_iff _ _) (Ev.bind (or2 _ _) ?_))))
            simp only [z, decide_false, Bool.false_or]
            generalize rd_T52 L ((i - 1 : Nat) : Int) = p
            have next := areEdges_loop n h0 h1 L hl d (i + 1) (by omega)
            unfold ltE
            by_cases a : p.f0 < e.f0
            · simp only [a, if_true, decide_true, Bool.true_or, Bool.true_and]
              exact ev_neg (by omega) next
            · by_cases b : e.f0 < p.f0
              · simp only [a, b, if_true, if_false, decide_false, Bool.false_or, show ¬ p.f0 = e.f0 by omega, Bool.false_and]
                exact ev_pos (by omega) (Ev.now _)
              · have c : p.f0 = e.f0 := by omega
                simp only [c, Int.lt_irrefl, if_true, if_false, decide_false, Bool.false_or, decide_true, Bool.true_and]
                by_cases g : p.f1 < e.f1
                · simp only [g, if_true, decide_true, Bool.true_and]
                  exact ev_neg (by omega) next
                · simp only [g, if_false, decide_false, Bool.false_and]
                  refine ev_pos ?_ (Ev.now _)
                  split <;> omega
      · refine ev_neg (by simp only [Bool.and_eq_true, decide_eq_true_iff]; exact c2) ?_
        have hg : gE n e = false := by
          unfold gE
          simp only [Bool.and_eq_false_iff, decide_eq_false_iff_not]
          omega
        rw [hg]; exact bad _ _
    · refine ev_neg (by simp only [Bool.and_eq_true, decide_eq_true_iff]; exact c1) ?_
      have hg : gE n e = false := by
        unfold gE
        simp only [Bool.and_eq_false_iff, decide_eq_false_iff_not]
        omega
      rw [hg]; exact bad _ _

theorem impl_ok (a : Int) (L : List S52) (hl : L.length ≤ 1048576) : Ev (fun k => impl_ValidTree.f k a L) (vT a L) := by
  unfold impl_ValidTree.f
  refine ev_bindc (within_iff a 2 16) ?_
  by_cases h : 2 ≤ a ∧ a ≤ 16
  · obtain ⟨n, rfl⟩ : ∃ n : Nat, a = n := ⟨a.toNat, by omega⟩
    refine ev_pos (by simp only [Bool.and_eq_true, decide_eq_true_iff]; exact h) (Ev.bind (areEdges_loop n (by omega) (by omega) L hl L.length 0 (by omega)) (ev_succ ?_))
    simp only [impl_ValidTree.j0]
    unfold vT valB
    simp only [h.1, h.2, decide_true, Bool.true_and, Int.toNat_natCast]
    cases ho : okFrom n L L.length 0 with
    | false =>
      refine ev_pos (by simp) ?_
      simp only [Bool.false_and, Bool.and_false]
      exact Ev.now _
    | true =>
      have hL := okFrom_all n L L.length 0 (by omega) ho
      rw [List.drop_zero] at hL
      simp only [Bool.true_and]
      by_cases g : (L.length : Int) = (n : Int) - 1
      · simp only [g, decide_true, Bool.true_and]
        refine ev_neg (by simp) (Ev.bind (far_ev n (by omega) L hl 0 (by omega) (by omega) hL) ?_)
        have hlen := tab_len n L 0 (by omega) (by omega) hL
        obtain ⟨v, e1, e2⟩ := min_ev (tab n L 0).1 (by omega) (n - 1) 1 (rd (tab n L 0).1 0) (by omega)
        refine Ev.bind (a := v) ?_ ?_
        · unfold slices_Min_int64_int64.f
          exact ev_neg (by omega) (ev_pos (by omega) e1)
        · have e3 : decide (v ≥ 0) = reachB n L := by
            have h3 : (0 ≤ v) ↔ reachB n L = true := by
              rw [e2, reachB_iff n L (by omega) hL]
              constructor
              · rintro ⟨a, b⟩ i i0 i1
                by_cases z : i = 0
                · rw [z]; exact a
                · have hlt : i.toNat < (tab n L 0).1.length := by omega
                  have hr : rd (tab n L 0).1 i = (tab n L 0).1[i.toNat] := by simp [rd, hlt]
                  rw [hr]
                  refine b _ ?_
                  rw [List.mem_drop_iff_getElem]
                  exact ⟨i.toNat - 1, by omega, by congr 1; omega⟩
              · intro q
                refine ⟨q 0 (by omega) (by omega), ?_⟩
                intro y hy
                obtain ⟨j, hj, e⟩ := List.getElem_of_mem (List.mem_of_mem_drop hy)
                have := q (j : Int) (by omega) (by omega)
                have e' : rd (tab n L 0).1 (j : Int) = (tab n L 0).1[j] := by simp [rd, hj]
                omega
            cases hb : reachB n L with
            | true => rw [hb] at h3; simpa using h3.2 rfl
            | false => rw [hb] at h3; simp at h3; simpa using h3
          rw [← e3]
          exact Ev.now _
      · simp only [g, decide_false, Bool.false_and]
        exact ev_pos (by simp) (Ev.now _)
  · refine ev_neg (by simp only [Bool.and_eq_true, decide_eq_true_iff]; exact h) (ev_succ ?_)
    simp only [impl_ValidTree.j0, if_true]
    have : vT a L = false := by
      unfold vT
      rcases Decidable.not_and_iff_or_not.1 h with c | c <;> simp [c]
    rw [this]
    exact Ev.now _

end Go.Proofs.YtddaiabilhjcpaaDoorAT
