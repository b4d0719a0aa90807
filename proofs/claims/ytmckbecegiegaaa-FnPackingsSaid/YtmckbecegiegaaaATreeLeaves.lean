/- The leaves of a tree: both programs find the same. -/
import Derived.Test.YtmckbecegiegaaaATreeOk
import Derived.Test.YtmckbecegiegaaaAx12
import Derived.Test.YtmckbecegiegaaaAx4
namespace Go.Proofs.YtmckbecegiegaaaAT
open Go.RowKit Go.Proofs.Ytmckbecegiegaaa.A Go.Proofs.YtmckbecegiegaaaW.PrintWords Go.Proofs.YtmckbecegiegaaaM

/-- How many edges a node has. -/
def dg (L : List S75) (x : Int) : Nat := L.countP (fun e => decide (e.f0 = x ∨ e.f1 = x))

theorem dg_le (L : List S75) (x : Int) : dg L x ≤ L.length := List.countP_le_length
theorem dg_cons (e : S75) (L : List S75) (x : Int) : dg (e :: L) x = dg L x + (if e.f0 = x ∨ e.f1 = x then 1 else 0) := by
  unfold dg; rw [List.countP_cons]; simp only [decide_eq_true_iff]

/-- Places that are told by p, from i on. -/
def pick (p : Nat → Bool) : Nat → Nat → List Int → List Int
  | 0, _, acc => acc
  | d + 1, i, acc => if p i = true then pick p d (i + 1) (acc ++ [(i : Int)]) else pick p d (i + 1) acc

theorem pick_len (p : Nat → Bool) : ∀ (d i : Nat) (acc : List Int), (pick p d i acc).length ≤ acc.length + d
  | 0, i, acc => by simp [pick]
  | d + 1, i, acc => by
    unfold pick
    split
    · have := pick_len p d (i + 1) (acc ++ [(i : Int)]); simp at this; omega
    · have := pick_len p d (i + 1) acc; omega

theorem pick_mem (p : Nat → Bool) : ∀ (d i : Nat) (acc : List Int), ∀ x ∈ pick p d i acc, x ∈ acc ∨ ((i : Int) ≤ x ∧ x < i + d ∧ p x.toNat = true)
  | 0, i, acc => fun x h => .inl h
  | d + 1, i, acc => by
    intro x h
    unfold pick at h
    split at h
    · rename_i hp
      rcases pick_mem p d (i + 1) _ x h with h | ⟨a, b, c⟩
      · rcases List.mem_append.1 h with h | h
        · exact .inl h
        · have := List.mem_singleton.1 h
          subst this
          exact .inr ⟨by omega, by omega, by simpa using hp⟩
      · exact .inr ⟨by omega, by omega, c⟩
    · rcases pick_mem p d (i + 1) _ x h with h | ⟨a, b, c⟩
      · exact .inl h
      · exact .inr ⟨by omega, by omega, c⟩

def isLeaf (L : List S75) (i : Nat) : Bool := decide (dg L i = 1)
def leavesL (n : Nat) (L : List S75) : List Int := pick (isLeaf L) n 0 []

theorem leavesL_len (n : Nat) (L : List S75) : (leavesL n L).length ≤ n := by
  have := pick_len (isLeaf L) n 0 []
  simpa [leavesL] using this
theorem leavesL_mem {n : Nat} {L : List S75} {x : Int} (h : x ∈ leavesL n L) : 0 ≤ x ∧ x < n := by
  rcases pick_mem _ _ _ _ x h with h | ⟨a, b, _⟩
  · cases h
  · exact ⟨by omega, by omega⟩

theorem specDeg (n : Nat) (L : List S75) (hl : L.length ≤ 1048576) (acc : List Int) (x : Nat) (R : List Int) : ∀ (d i : Nat) (c : Nat), i + d = L.length → c + dg (L.drop i) x ≤ 1048576 →
    (Ev (fun k => if ((c + dg (L.drop i) x : Nat) : Int) = 1 then (if acc.length < 17592186044416 then (spec_l30Leaves.l0 k (acc ++ [(x : Int)]) (wrap64 ((x : Int) + 1)) (n : Int) L) else (none)) else (spec_l30Leaves.l0 k acc (wrap64 ((x : Int) + 1)) (n : Int) L)) R) →
    Ev (fun k => spec_l30Leaves.l1 k acc (x : Int) (c : Int) (i : Int) (n : Int) L) R
  | 0, i, c, hi, hc, h => by
    refine ev_succ ?_
    simp only [spec_l30Leaves.l1]
    refine ev_neg (by omega) ?_
    have e0 : dg (L.drop i) x = 0 := by rw [List.drop_of_length_le (by omega)]; rfl
    rw [e0] at h
    exact h
  | d + 1, i, c, hi, hc, h => by
    obtain ⟨e, he, hm, hd⟩ := at_edge L i (by omega)
    rw [hd, dg_cons] at h hc
    refine ev_succ ?_
    simp only [spec_l30Leaves.l1, he, wnext i (by omega)]
    refine ev_pos (by omega) (ev_pos (by omega) ?_)
    by_cases a : e.f0 = x
    · rw [if_pos (.inl a)] at h hc
      refine ev_pos a ?_
      rw [wnext c (by omega)]
      exact specDeg n L hl acc x R d (i + 1) (c + 1) (by omega) (by omega) (by rw [show c + 1 + dg (L.drop (i + 1)) x = c + (dg (L.drop (i + 1)) x + 1) by omega]; exact h)
    · refine ev_neg a ?_
      by_cases b : e.f1 = x
      · rw [if_pos (.inr b)] at h hc
        refine ev_pos b ?_
        rw [wnext c (by omega)]
        exact specDeg n L hl acc x R d (i + 1) (c + 1) (by omega) (by omega) (by rw [show c + 1 + dg (L.drop (i + 1)) x = c + (dg (L.drop (i + 1)) x + 1) by omega]; exact h)
      · rw [if_neg (by rintro (q | q) <;> contradiction)] at h hc
        refine ev_neg b ?_
        exact specDeg n L hl acc x R d (i + 1) c (by omega) (by omega) h

theorem specLeaves_loop (n : Nat) (hn : n ≤ 16) (L : List S75) (hl : L.length ≤ 1048576) : ∀ (d i : Nat) (acc : List Int), i + d = n → acc.length ≤ i →
    Ev (fun k => spec_l30Leaves.l0 k acc (i : Int) (n : Int) L) (pick (isLeaf L) d i acc)
  | 0, i, acc, hi, ha => by
    refine ev_succ ?_
    simp only [spec_l30Leaves.l0, pick]
    exact ev_neg (by omega) (Ev.now _)
  | d + 1, i, acc, hi, ha => by
    refine ev_succ ?_
    simp only [spec_l30Leaves.l0]
    refine ev_pos (by omega) ?_
    have hdl := dg_le L i
    refine specDeg n L hl acc i _ L.length 0 0 (by omega) (by simpa using (by omega : dg L i ≤ 1048576)) ?_
    simp only [List.drop_zero, Nat.zero_add, pick, isLeaf, decide_eq_true_iff, wnext i (by omega)]
    by_cases q : dg L i = 1
    · rw [if_pos q]
      refine ev_pos (by omega) (ev_pos (by omega) ?_)
      exact specLeaves_loop n hn L hl d (i + 1) (acc ++ [(i : Int)]) (by omega) (by simp; omega)
    · rw [if_neg q]
      refine ev_neg (by omega) ?_
      exact specLeaves_loop n hn L hl d (i + 1) acc (by omega) (by omega)

theorem spec_leaves (n : Nat) (hn : n ≤ 16) (L : List S75) (hl : L.length ≤ 1048576) : Ev (fun k => spec_l30Leaves.f k (n : Int) L) (leavesL n L) :=
  specLeaves_loop n hn L hl n 0 [] (by omega) (by simp)

theorem implPick (n : Nat) (hn : n ≤ 16) (L : List S75) (c : List Int) (hc : c.length = n) (h : ∀ i : Nat, i < n → rd c i = dg L i) : ∀ (d i : Nat) (acc : List Int), i + d = n → acc.length ≤ i →
    Ev (fun k => impl_Tree_leaves.l1 k acc c (n : Int) (i : Int)) (pick (isLeaf L) d i acc)
  | 0, i, acc, hi, ha => by
    refine ev_succ ?_
    simp only [impl_Tree_leaves.l1, pick]
    exact ev_neg (by omega) (Ev.now _)
  | d + 1, i, acc, hi, ha => by
    refine ev_succ ?_
    simp only [impl_Tree_leaves.l1, pick, isLeaf, decide_eq_true_iff, wnext i (by omega), h i (by omega)]
    refine ev_pos (by omega) (ev_pos (by omega) (ev_pos (by omega) ?_))
    by_cases q : dg L i = 1
    · rw [if_pos q]
      refine ev_pos (by omega) (ev_pos (by omega) ?_)
      exact implPick n hn L c hc h d (i + 1) (acc ++ [(i : Int)]) (by omega) (by simp; omega)
    · rw [if_neg q]
      refine ev_neg (by omega) ?_
      exact implPick n hn L c hc h d (i + 1) acc (by omega) (by omega)

theorem implCount (n : Nat) (hn : n ≤ 16) (L : List S75) (hl : L.length ≤ 1048576) (hL : ∀ e ∈ L, GE n e) : ∀ (d i : Nat) (c : List Int), i + d = L.length → c.length = n → (∀ x : Nat, x < n → rd c x + dg (L.drop i) x = dg L x) → (∀ x : Nat, x < n → 0 ≤ rd c x) →
    Ev (fun k => impl_Tree_leaves.l0 k c L (L.length : Int) (i : Int)) (leavesL n L)
  | 0, i, c, hi, hc, h, h0 => by
    refine ev_succ ?_
    simp only [impl_Tree_leaves.l0]
    refine ev_neg (by omega) ?_
    rw [hc]
    refine implPick n hn L c hc (fun x hx => ?_) n 0 [] (by omega) (by simp)
    have := h x hx
    rw [List.drop_of_length_le (by omega)] at this
    simpa [dg] using this
  | d + 1, i, c, hi, hc, h, h0 => by
    obtain ⟨e, he, hm, hd⟩ := at_edge L i (by omega)
    obtain ⟨g0, g1, g2, g3, g4⟩ := hL e hm
    obtain ⟨a, ha⟩ : ∃ a : Nat, e.f0 = a := ⟨e.f0.toNat, by omega⟩
    obtain ⟨b, hb⟩ : ∃ b : Nat, e.f1 = b := ⟨e.f1.toNat, by omega⟩
    have hab : a ≠ b := by omega
    have ra : rd c a + 1 ≤ 1048577 := by have := h a (by omega); have := dg_le L a; omega
    have rb : rd c b + 1 ≤ 1048577 := by have := h b (by omega); have := dg_le L b; omega
    have pa := h0 a (by omega)
    have pb := h0 b (by omega)
    refine ev_succ ?_
    simp only [impl_Tree_leaves.l0, he, ha, hb, wnext i (by omega), Option.bind_some]
    refine ev_pos (by omega) (ev_pos (by omega) (ev_pos (by omega) (ev_pos (by omega) (ev_pos (by omega) (ev_pos (by omega) (ev_pos (by omega) ?_))))))
    rw [rd_set_ne c a b _ (by omega) (by omega) (by omega), w64 (i := rd c a + 1) (by omega) (by omega), w64 (i := rd c b + 1) (by omega) (by omega)]
    have hrd : ∀ x : Nat, rd ((c.set (a : Int).toNat (rd c a + 1)).set (b : Int).toNat (rd c b + 1)) x = rd c x + (if e.f0 = x ∨ e.f1 = x then 1 else 0) := by
      intro x
      rw [rd_set _ _ _ _ (by omega) (by omega) (by simp; omega), rd_set _ _ _ _ (by omega) (by omega) (by omega)]
      by_cases q : x = b
      · subst q; rw [if_pos rfl, if_pos (.inr hb)]
      · rw [if_neg (by omega)]
        by_cases r : x = a
        · subst r; rw [if_pos rfl, if_pos (.inl ha)]
        · rw [if_neg (by omega), if_neg (by omega)]; omega
    refine implCount n hn L hl hL d (i + 1) _ (by omega) (by simp [hc]) ?_ ?_
    · intro x hx
      have := h x hx
      rw [hd, dg_cons] at this
      rw [hrd x]
      split at this <;> split <;> simp_all <;> omega
    · intro x hx
      have := h0 x hx
      rw [hrd x]
      split <;> omega

theorem impl_leaves (n : Nat) (hn : n ≤ 16) (L : List S75) (hl : L.length ≤ 1048576) (hL : ∀ e ∈ L, GE n e) : Ev (fun k => impl_Tree_leaves.f k (n : Int) L) (leavesL n L) := by
  have hz : ∀ x : Nat, x < n → rd (List.replicate n (0 : Int)) x = 0 := by intro x hx; simp [rd, List.getD_eq_getElem?_getD, hx]
  unfold impl_Tree_leaves.f
  refine ev_pos (by omega) (ev_pos (by omega) ?_)
  simp only [Int.toNat_natCast]
  exact implCount n hn L hl hL L.length 0 (List.replicate n 0) (by omega) (by simp) (fun x hx => by rw [hz x hx]; simp) (fun x hx => by rw [hz x hx]; omega)

end Go.Proofs.YtmckbecegiegaaaAT
