/- The first packing: what is found is a packing, and both programs find the same. -/
import Derived.Test.YtmckbecegiegaaaATreeSearch
import Derived.Test.YtmckbecegiegaaaAx8
import Derived.Test.YtmckbecegiegaaaAx4
namespace Go.Proofs.YtmckbecegiegaaaAT
open Go.RowKit Go.Proofs.Ytmckbecegiegaaa.A Go.Proofs.YtmckbecegiegaaaW.PrintWords Go.Proofs.YtmckbecegiegaaaM

structure Found (D : List (List Int)) (m n r : Nat) (sp : List S37) (left : Nat) (z : List S37) (l : Nat) : Prop where
  len : z.length = n + r
  pre : ∀ j : Nat, j < n → rd_T37 z (j : Int) = rd_T37 sp (j : Int)
  ok : ∀ i : Nat, n ≤ i → i < n + r → inb (m : Int) (rd_T37 z (i : Int)) = true ∧ rowOk D z i i 0 = true
  wk : l + r ≤ left

theorem goI_found {D : List (List Int)} {m T : Nat} (hp : ∀ i, i < T → inb (m : Int) (pt m i) = true) {f : List S37 → Nat → Option (Option (List S37) × Nat)} {n r : Nat}
    (hle : ∀ sp left x l, f sp left = some (x, l) → l ≤ left)
    (hf : ∀ (sp : List S37) (left : Nat) z l, sp.length = n + 1 → f sp left = some (some z, l) → Found D m (n + 1) r sp left z l) :
    ∀ (d : Nat) (sp : List S37) (left : Nat) z l, d ≤ T → sp.length = n → goI f D m T d sp left = some (some z, l) → Found D m n (r + 1) sp left z l
  | 0, sp, left, z, l, hd, hsp, h => by simp [goI] at h
  | d + 1, sp, 0, z, l, hd, hsp, h => by simp [goI] at h
  | d + 1, sp, left + 1, z, l, hd, hsp, h => by
    have hpi := hp (T - (d + 1)) (by omega)
    simp only [goI] at h
    generalize pt m (T - (d + 1)) = p at *
    split at h
    · rename_i q
      split at h
      · cases h
      · rename_i z' l' e
        simp only [Option.some.injEq, Prod.mk.injEq] at h
        obtain ⟨rfl, rfl⟩ := h
        have g := hf _ _ _ _ (by simp; omega) e
        have e1 : ∀ j : Nat, j < n → rd_T37 z' (j : Int) = rd_T37 sp (j : Int) := fun j hj => by rw [g.pre j (by omega), rd68_app _ _ j (by omega)]
        have e2 : rd_T37 z' (n : Int) = p := by rw [g.pre n (by omega), ← hsp, rd68_last]
        refine ⟨by have := g.len; omega, e1, fun i h1 h2 => ?_, by have := g.wk; omega⟩
        by_cases e3 : i = n
        · rw [e3, e2]
          refine ⟨hpi, ?_⟩
          unfold okP at q
          rw [hsp] at q
          rw [← q]
          exact rowOk_ext D z' (sp ++ [p]) n (fun j hj => g.pre j (by omega)) n 0 (by omega)
        · exact g.ok i (by omega) (by omega)
      · rename_i l' e
        have g := goI_found hp hle hf d sp l' z l (by omega) hsp h
        have := hle _ _ _ _ e
        exact ⟨g.len, g.pre, g.ok, by have := g.wk; omega⟩
    · have g := goI_found hp hle hf d sp left z l (by omega) hsp h
      exact ⟨g.len, g.pre, g.ok, by have := g.wk; omega⟩

theorem go_found (D : List (List Int)) (m : Nat) : ∀ (r n : Nat) (sp : List S37) (left : Nat) z l, sp.length = n → go D m r sp left = some (some z, l) → Found D m n r sp left z l
  | 0, n, sp, left, z, l, hn, h => by
    simp only [go, Option.some.injEq, Prod.mk.injEq] at h
    obtain ⟨rfl, rfl⟩ := h
    exact ⟨by omega, fun _ _ => rfl, fun i h1 h2 => by omega, by omega⟩
  | r + 1, n, sp, left, z, l, hn, h => goI_found (pt_in m) (go_le D m r) (fun sp left z l h1 h2 => go_found D m r (n + 1) sp left z l h1 h2) _ sp left z l (Nat.le_refl _) hn h

/-- What was found. -/
theorem firstN_ok (n : Nat) (L : List S75) (m work : Nat) (h : (firstN n L m work).2.2 = 0) : ∃ l, Found (distOf n L (leavesL n L)) m 0 (leavesL n L).length [] work (firstN n L m work).1 l ∧ (firstN n L m work).2.1 = (work : Int) - l := by
  unfold firstN at h ⊢
  have hf := go_found (distOf n L (leavesL n L)) m (leavesL n L).length 0 [] work
  generalize go (distOf n L (leavesL n L)) m (leavesL n L).length [] work = G at *
  match G, hf, h with
  | none, hf, h => simp [firstR] at h
  | some (some z, l), hf, h => exact ⟨l, hf z l rfl rfl, rfl⟩
  | some (none, l), hf, h => simp [firstR] at h

theorem firstN_code (n : Nat) (L : List S75) (m work : Nat) : (firstN n L m work).2.2 = 0 ∨ ((firstN n L m work).1 = [] ∧ (firstN n L m work).2.2 = 10) ∨ ((firstN n L m work).1 = [] ∧ (firstN n L m work).2.2 = 3) := by
  unfold firstN
  generalize go (distOf n L (leavesL n L)) m (leavesL n L).length [] work = G at *
  match G with
  | none => exact .inr (.inl ⟨rfl, rfl⟩)
  | some (some z, l) => exact .inl rfl
  | some (none, l) => exact .inr (.inr ⟨rfl, rfl⟩)

theorem firstN_len (n : Nat) (hn : n ≤ 16) (L : List S75) (m work : Nat) : (firstN n L m work).1.length ≤ 16 := by
  have h1 := leavesL_len n L
  rcases firstN_code n L m work with h | ⟨h, _⟩ | ⟨h, _⟩
  · obtain ⟨l, f, _⟩ := firstN_ok n L m work h
    have := f.len
    omega
  · rw [h]; simp
  · rw [h]; simp

def firstP (a : Int) (L : List S75) (s w : Int) : List S37 × Int × Int :=
  if vT a L = true then (if (decide (1 ≤ s) && decide (s ≤ 40)) = true then (if (decide (0 ≤ w) && decide (w ≤ 20000)) = true then firstN a.toNat L s.toNat w.toNat else ([], 0, 2)) else ([], 0, 2)) else ([], 0, 1)

theorem firstP_len (a : Int) (L : List S75) (s w : Int) : (firstP a L s w).1.length ≤ 16 := by
  unfold firstP
  split
  · rename_i h
    obtain ⟨n, rfl, h0, h1, _, hL, _⟩ := vT_out h
    split
    · split
      · exact firstN_len n h1 L _ _
      · simp
    · simp
  · simp

theorem impl_firstP (a : Int) (L : List S75) (hl : L.length ≤ 1048576) (s w : Int) : Ev (fun k => impl_FirstPacking.f k a L s w) (firstP a L s w) := by
  unfold impl_FirstPacking.f firstP
  refine Ev.bind (impl_ok a L hl) ?_
  cases h : vT a L with
  | false => simp only [Bool.false_eq_true, if_false]; exact Ev.now _
  | true =>
    obtain ⟨n, rfl, h0, h1, _, hL, _⟩ := vT_out h
    simp only [if_true]
    refine ev_bindc (a := (decide (1 ≤ s) && decide (s ≤ 40))) (by simp only [impl_isGridSide.f, within_iff, Option.bind_some]) ?_
    cases q : (decide (1 ≤ s) && decide (s ≤ 40)) with
    | false => simp only [Bool.false_eq_true, if_false]; exact Ev.now _
    | true =>
      simp only [if_true]
      refine ev_bindc (a := (decide (0 ≤ w) && decide (w ≤ 20000))) (by simp only [impl_isWork.f, within_iff, Option.bind_some]) ?_
      cases q2 : (decide (0 ≤ w) && decide (w ≤ 20000)) with
      | false => simp only [Bool.false_eq_true, if_false]; exact Ev.now _
      | true =>
        simp only [if_true]
        simp only [Bool.and_eq_true, decide_eq_true_iff] at q q2
        obtain ⟨m, rfl⟩ : ∃ m : Nat, s = m := ⟨s.toNat, by omega⟩
        obtain ⟨v, rfl⟩ : ∃ v : Nat, w = v := ⟨w.toNat, by omega⟩
        simp only [Int.toNat_natCast]
        exact Ev.bind (impl_first n h1 L hl hL m v (by omega) (by omega)) (Ev.now _)

end Go.Proofs.YtmckbecegiegaaaAT
