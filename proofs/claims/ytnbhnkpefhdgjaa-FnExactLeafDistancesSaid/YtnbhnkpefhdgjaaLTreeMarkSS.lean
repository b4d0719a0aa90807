/- Marks that a law puts into rows of whole numbers, and finds again. -/
import Derived.Test.YtnbhnkpefhdgjaaLTreeMark
import Derived.Test.YtnbhnkpefhdgjaaLTreeMarkI
import Derived.Test.YtnbhnkpefhdgjaaLx9
import Derived.Test.YtnbhnkpefhdgjaaLx8
namespace Go.Proofs.YtnbhnkpefhdgjaaLT
open Go.RowKit Go.Proofs.Ytnbhnkpefhdgjaa.L Go.Proofs.YtnbhnkpefhdgjaaW.PrintWords Go.Proofs.YtnbhnkpefhdgjaaM

/-- How many numbers stand in rows. -/
def tot : List (List Int) → Nat
  | [] => 0
  | l :: r => l.length + tot r

/-- Marks from v on, as many as a row has. -/
def runI (v : Int) : Nat → List Int
  | 0 => []
  | n + 1 => v :: runI (v + 1) n

theorem runI_len : ∀ (n : Nat) (v : Int), (runI v n).length = n
  | 0, v => rfl
  | n + 1, v => by simp [runI, runI_len n]

theorem runI_get : ∀ (n : Nat) (v : Int) (j : Nat), j < n → (runI v n)[j]? = some (v + j)
  | 0, v, j, h => by omega
  | n + 1, v, 0, h => by simp [runI]
  | n + 1, v, j + 1, h => by
    simp only [runI, List.getElem?_cons_succ]
    rw [runI_get n (v + 1) j (by omega)]
    congr 1
    omega

theorem markR_loop : ∀ (d i : Nat) (l : List Int) (v : Int), i + d = l.length → l.length ≤ 1048576 → 0 ≤ v → v + d ≤ 1000000000 → (∀ j, j < i → l[j]? = some (v - i + j)) →
    Ev (fun k => laws_markInt64S.l0 k l v (i : Int)) (v + d, runI (v - i) l.length)
  | 0, i, l, v, hi, hl, h0, h1, h => by
    refine ev_succ ?_
    simp only [laws_markInt64S.l0]
    refine ev_neg (by omega) ?_
    have e : l = runI (v - i) l.length := by
      apply List.ext_getElem?
      intro j
      by_cases q : j < l.length
      · rw [h j (by omega), runI_get _ _ _ q]
      · rw [List.getElem?_eq_none (by omega), List.getElem?_eq_none (by rw [runI_len]; omega)]
    rw [← e, show v + ((0 : Nat) : Int) = v by omega]
    exact Ev.now _
  | d + 1, i, l, v, hi, hl, h0, h1, h => by
    have g := markR_loop d (i + 1) (l.set i v) (v + 1) (by simp; omega) (by simp; omega) (by omega) (by omega) (by
      intro j hj
      by_cases e : j = i
      · subst e
        rw [List.getElem?_set_self (by omega)]
        congr 1
        omega
      · rw [List.getElem?_set_ne (by omega), h j (by omega)]
        congr 1
        omega)
    simp only [List.length_set] at g
    refine ev_succ ?_
    simp only [laws_markInt64S.l0, wnext i (by omega), Int.toNat_natCast]
    refine ev_pos (by omega) (ev_pos (by omega) ?_)
    rw [w64 (i := v + 1) (by omega) (by omega), show v + ((d + 1 : Nat) : Int) = v + 1 + d by omega, show v - (i : Int) = v + 1 - ((i + 1 : Nat) : Int) by omega]
    exact g

theorem markR (l : List Int) (v : Int) (hl : l.length ≤ 1048576) (h0 : 0 ≤ v) (h1 : v + l.length ≤ 1000000000) : Ev (fun k => laws_markInt64S.f k l v) (v + l.length, runI v l.length) := by
  have g := markR_loop l.length 0 l v (by omega) hl h0 h1 (fun j h => absurd h (Nat.not_lt_zero _))
  rw [show v - ((0 : Nat) : Int) = v by omega] at g
  exact g

theorem heldR_loop (m : List Int) (v0 : Int) (hl : m.length ≤ 1048576) (h0 : 0 ≤ v0) (h1 : v0 + m.length ≤ 1000000000) (h : ∀ j, j < m.length → m[j]? = some (v0 + j)) : ∀ (d i : Nat), i + d = m.length → Ev (fun k => laws_heldInt64S.l0 k m (v0 + i) (i : Int)) (v0 + (m.length : Int))
  | 0, i, hi => by
    refine ev_succ ?_
    simp only [laws_heldInt64S.l0]
    rw [show m.length = i by omega]
    exact ev_neg (by omega) (Ev.now _)
  | d + 1, i, hi => by
    have hr : rd m (i : Int) = v0 + i := by
      have := h i (by omega)
      simp [rd, List.getD_eq_getElem?_getD, this]
    refine ev_succ ?_
    simp only [laws_heldInt64S.l0, wnext i (by omega)]
    refine ev_pos (by omega) (ev_pos (by omega) (ev_pos hr ?_))
    rw [w64 (by omega) (by omega), show v0 + (i : Int) + 1 = v0 + ((i + 1 : Nat) : Int) by omega]
    exact heldR_loop m v0 hl h0 h1 h d (i + 1) (by omega)

theorem heldR (n : Nat) (v : Int) (hl : n ≤ 1048576) (h0 : 0 ≤ v) (h1 : v + n ≤ 1000000000) : Ev (fun k => laws_heldInt64S.f k (runI v n) v) (v + n) := by
  have g := heldR_loop (runI v n) v (by rw [runI_len]; exact hl) h0 (by rw [runI_len]; exact h1) (by rw [runI_len]; exact fun j hj => runI_get n v j hj) (runI v n).length 0 (by omega)
  rw [runI_len, show v + ((0 : Nat) : Int) = v by omega] at g
  exact g

/-- Rows marked one after the other. -/
def runSS (v : Int) : List (List Int) → List (List Int)
  | [] => []
  | l :: r => runI v l.length :: runSS (v + l.length) r

theorem runSS_len : ∀ (r : List (List Int)) (v : Int), (runSS v r).length = r.length
  | [], v => rfl
  | l :: r, v => by simp [runSS, runSS_len r]

theorem tot_drop (D : List (List Int)) (i : Nat) (h : i < D.length) : tot (D.drop i) = D[i].length + tot (D.drop (i + 1)) := by
  rw [List.drop_eq_getElem_cons h]; rfl

theorem row_le : ∀ (D : List (List Int)) (l : List Int), l ∈ D → l.length ≤ tot D
  | [], l, h => by cases h
  | a :: D, l, h => by
    rcases List.mem_cons.1 h with rfl | h
    · simp [tot]
    · have := row_le D l h; simp only [tot]; omega

theorem rdL (D : List (List Int)) (i : Nat) (h : i < D.length) : rd_L3 D (i : Int) = D[i] := by simp [rd_L3, h]

/-- The marking of rows: those ahead are done. -/
theorem markSS_loop : ∀ (r done : List (List Int)) (v : Int), done.length + r.length ≤ 1048576 → tot r ≤ 1048576 → 0 ≤ v → v + tot r ≤ 100000000 →
    Ev (fun k => laws_markInt64SS.l0 k (done ++ r) v (done.length : Int)) (v + tot r, done ++ runSS v r)
  | [], done, v, hl, ht, h0, h1 => by
    refine ev_succ ?_
    simp only [laws_markInt64SS.l0, List.append_nil, runSS, tot]
    rw [show v + ((0 : Nat) : Int) = v by omega]
    exact ev_neg (by omega) (Ev.now _)
  | l :: r, done, v, hl, ht, h0, h1 => by
    have hlt : done.length < (done ++ l :: r).length := by simp
    have hr : rd_L3 (done ++ l :: r) (done.length : Int) = l := by
      rw [rdL _ _ hlt]; simp
    simp only [tot, List.length_cons] at ht h1 hl
    have g := markSS_loop r (done ++ [runI v l.length]) (v + l.length) (by simp; omega) (by omega) (by omega) (by omega)
    refine ev_succ ?_
    simp only [laws_markInt64SS.l0, hr, wnext done.length (by omega), Int.toNat_natCast]
    refine ev_pos (by omega) (ev_pos (by omega) (Ev.bind (markR l v (by omega) h0 (by omega)) ?_))
    simp only [tot, runSS]
    rw [show v + ((l.length + tot r : Nat) : Int) = v + l.length + tot r by omega]
    rw [show (done ++ l :: r).set done.length (runI v l.length) = (done ++ [runI v l.length]) ++ r by simp]
    rw [show done ++ runI v l.length :: runSS (v + l.length) r = (done ++ [runI v l.length]) ++ runSS (v + l.length) r by simp]
    rw [show ((done.length + 1 : Nat) : Int) = ((done ++ [runI v l.length]).length : Int) by simp]
    exact g

theorem heldSS_loop : ∀ (r done : List (List Int)) (v : Int), done.length + r.length ≤ 1048576 → tot r ≤ 1048576 → 0 ≤ v → v + tot r ≤ 100000000 →
    Ev (fun k => laws_heldInt64SS.l0 k (done ++ runSS v r) v (done.length : Int)) (v + tot r)
  | [], done, v, hl, ht, h0, h1 => by
    refine ev_succ ?_
    simp only [laws_heldInt64SS.l0, List.append_nil, runSS, tot]
    rw [show v + ((0 : Nat) : Int) = v by omega]
    exact ev_neg (by omega) (Ev.now _)
  | l :: r, done, v, hl, ht, h0, h1 => by
    have hlt : done.length < (done ++ runSS v (l :: r)).length := by simp [runSS]
    have hr : rd_L3 (done ++ runSS v (l :: r)) (done.length : Int) = runI v l.length := by
      rw [rdL _ _ hlt]; simp [runSS]
    simp only [tot, List.length_cons] at ht h1 hl
    have g := heldSS_loop r (done ++ [runI v l.length]) (v + l.length) (by simp; omega) (by omega) (by omega) (by omega)
    refine ev_succ ?_
    simp only [laws_heldInt64SS.l0, hr, wnext done.length (by omega)]
    refine ev_pos (by omega) (ev_pos (by omega) (Ev.bind (heldR l.length v (by omega) h0 (by omega)) (ev_neg (by omega) ?_)))
    simp only [tot, runSS]
    rw [show v + ((l.length + tot r : Nat) : Int) = v + l.length + tot r by omega]
    rw [show done ++ runI v l.length :: runSS (v + l.length) r = (done ++ [runI v l.length]) ++ runSS (v + l.length) r by simp]
    rw [show ((done.length + 1 : Nat) : Int) = ((done ++ [runI v l.length]).length : Int) by simp]
    exact g

theorem markSS (D : List (List Int)) (hl : D.length ≤ 1048576) (ht : tot D ≤ 1048576) : ∃ m, Ev (fun k => laws_markInt64SS.f k D 1) (1 + (tot D : Int), m) ∧ Ev (fun k => laws_heldInt64SS.f k m 1) (1 + (tot D : Int)) :=
  ⟨runSS 1 D, markSS_loop D [] 1 (by simpa using hl) ht (by omega) (by omega), heldSS_loop D [] 1 (by simpa using hl) ht (by omega) (by omega)⟩

theorem eqSS_loop (D : List (List Int)) (hl : D.length ≤ 1048576) (ht : tot D ≤ 1048576) : ∀ (d i : Nat), i + d = D.length → Ev (fun k => laws_eqInt64SS.l0 k D D (i : Int)) true
  | 0, i, hi => by
    refine ev_succ ?_
    simp only [laws_eqInt64SS.l0]
    exact ev_neg (by omega) (Ev.now _)
  | d + 1, i, hi => by
    have hlt : i < D.length := by omega
    have hle := row_le D D[i] (List.getElem_mem hlt)
    refine ev_succ ?_
    simp only [laws_eqInt64SS.l0, wnext i (by omega), rdL D i hlt]
    exact ev_pos (by omega) (ev_pos (by omega) (ev_pos (by omega) (Ev.bind (eqI_refl D[i] (by omega)) (ev_pos rfl (eqSS_loop D hl ht d (i + 1) (by omega))))))

theorem eqSS_refl (D : List (List Int)) (hl : D.length ≤ 1048576) (ht : tot D ≤ 1048576) : Ev (fun k => laws_eqInt64SS.f k D D) true := by
  unfold laws_eqInt64SS.f
  simp only [if_true]
  exact eqSS_loop D hl ht D.length 0 (by omega)

end Go.Proofs.YtnbhnkpefhdgjaaLT
