/- Rules that are valid: both sides say the same. -/
import Derived.Test.YtiilgicmdnllbaaR1F1
import Derived.Test.YtiilgicmdnllbaaR1Plain
namespace Go.Proofs.Ytiilgicmdnllbaa.R
open Go.Proofs.Ytiilgicmdnllbaa.R1

abbrev Ru := Int × (List Int × List Int)

theorem impl_in (k : Nat) (x lo hi : Int) : f41 k x lo hi = some ((decide (lo ≤ x) && decide (x ≤ hi), ()), ()) := by
  unfold f41
  by_cases h : lo ≤ x
  · rw [show decide (x ≥ lo) = true from decide_eq_true h]; rfl
  · rw [show decide (x ≥ lo) = false from decide_eq_false h]; rfl

theorem spec_in (k : Nat) (x lo hi : Int) : f59 k x lo hi = some ((decide (lo ≤ x) && decide (x ≤ hi), ()), ()) := by
  unfold f59
  by_cases h : lo ≤ x
  · rw [show decide (x ≥ lo) = true from decide_eq_true h]; rfl
  · rw [show decide (x ≥ lo) = false from decide_eq_false h]; rfl

/-- Rising numbers within bounds. -/
def ris (lo hi : Int) : Option Int → List Int → Bool
  | _, [] => true
  | p, x :: r => (decide (lo ≤ x) && decide (x ≤ hi)) && ((match p with | none => true | some y => decide (y < x)) && ris lo hi (some x) r)

def prv (l : List Int) (i : Nat) : Option Int := match i with
  | 0 => none
  | i + 1 => l[i]?

theorem prv_next {l r : List Int} {i : Nat} {x : Int} (h : l.drop i = x :: r) : prv l (i + 1) = some x := at_cons h

theorem prv_at {l r : List Int} {i : Nat} {x : Int} (h : l.drop (i + 1) = x :: r) : ∃ y, l[i]? = some y := by
  have := lt_cons h
  exact ⟨_, List.getElem?_eq_getElem (by omega)⟩

theorem spec_ris_loop {ρ : Type} (k : Nat) (l : List Int) (lo hi : Int) (hl : l.length < 4611686018427387904) (nx) : ∀ (rest : List Int) (i : Nat), l.drop i = rest → ∀ j, rest.length < j →
    f93_l2 (ρ := ρ) k j l lo hi (i : Int) nx = bif ris lo hi (prv l i) rest then nx.1 ((), ()) else nx.2.1 ((false, ()), ())
  | [], i, h, j, hj => by
    obtain ⟨j, rfl⟩ : ∃ q, j = q + 1 := ⟨j - 1, by simp at hj; omega⟩
    simp only [f93_l2, out_nil h, cond_false, ris, cond_true]
  | x :: rest, i, h, j, hj => by
    obtain ⟨j, rfl⟩ : ∃ q, j = q + 1 := ⟨j - 1, by simp at hj; omega⟩
    have hlt := lt_cons h
    have ih := spec_ris_loop k l lo hi hl nx rest (i + 1) (next_cons h) j (by simpa using hj)
    simp only [f93_l2, in_cons h, cond_true, getI_cons h, Option.bind_some, spec_in, wr_succ (show i < 4611686018427387904 by omega), ris]
    cases hb : decide (lo ≤ x) && decide (x ≤ hi) with
    | false => simp only [Bool.not_false, cond_true, Bool.false_and, cond_false]
    | true =>
      simp only [Bool.not_true, cond_false, Bool.true_and]
      cases i with
      | zero =>
        rw [show decide (((0 : Nat) : Int) > 0) = false from rfl]
        simp only [cond_false, prv, Bool.true_and]
        rw [ih, prv_next h]
      | succ i =>
        obtain ⟨y, hy⟩ := prv_at h
        rw [show decide (((i + 1 : Nat) : Int) > 0) = true from decide_eq_true (by omega), wr_id (by omega) (by omega), show ((i + 1 : Nat) : Int) - 1 = (i : Int) by omega, getI_nat, hy]
        simp only [cond_true, Option.bind_some, prv, hy]
        by_cases q : y < x
        · rw [show decide (y ≥ x) = false from decide_eq_false (by omega), dlt q]
          simp only [cond_false, Bool.true_and]
          rw [ih, prv_next h]
        · rw [show decide (y ≥ x) = true from decide_eq_true (by omega), dnlt (by omega)]
          simp only [cond_true, Bool.false_and, cond_false]

theorem impl_ris_loop {ρ : Type} (k : Nat) (l : List Int) (lo hi : Int) (hl : l.length < 4611686018427387904) (nx) : ∀ (rest : List Int) (i : Nat), l.drop i = rest → ∀ j, rest.length < j →
    f91_l2 (ρ := ρ) k j l lo hi l (l.length : Int) (i : Int) nx = bif ris lo hi (prv l i) rest then nx.1 ((), ()) else nx.2.1 ((false, ()), ())
  | [], i, h, j, hj => by
    obtain ⟨j, rfl⟩ : ∃ q, j = q + 1 := ⟨j - 1, by simp at hj; omega⟩
    simp only [f91_l2, out_nil h, cond_false, ris, cond_true]
  | x :: rest, i, h, j, hj => by
    obtain ⟨j, rfl⟩ : ∃ q, j = q + 1 := ⟨j - 1, by simp at hj; omega⟩
    have hlt := lt_cons h
    have ih := impl_ris_loop k l lo hi hl nx rest (i + 1) (next_cons h) j (by simpa using hj)
    simp only [f91_l2, in_cons h, cond_true, getI_cons h, Option.bind_some, impl_in, wr_succ (show i < 4611686018427387904 by omega), ris]
    cases hb : decide (lo ≤ x) && decide (x ≤ hi) with
    | false => simp only [Bool.not_false, cond_true, Bool.false_and, cond_false]
    | true =>
      simp only [Bool.not_true, cond_false, Bool.true_and]
      cases i with
      | zero =>
        rw [show decide (((0 : Nat) : Int) > 0) = false from rfl]
        simp only [cond_false, prv, Bool.true_and]
        rw [ih, prv_next h]
      | succ i =>
        obtain ⟨y, hy⟩ := prv_at h
        rw [show decide (((i + 1 : Nat) : Int) > 0) = true from decide_eq_true (by omega), wr_id (by omega) (by omega), show ((i + 1 : Nat) : Int) - 1 = (i : Int) by omega, getI_nat, hy]
        simp only [cond_true, Option.bind_some, prv, hy]
        by_cases q : y < x
        · rw [show decide (y ≥ x) = false from decide_eq_false (by omega), dlt q]
          simp only [cond_false, Bool.true_and]
          rw [ih, prv_next h]
        · rw [show decide (y ≥ x) = true from decide_eq_true (by omega), dnlt (by omega)]
          simp only [cond_true, Bool.false_and, cond_false]

theorem spec_ris (k : Nat) (l : List Int) (lo hi : Int) (hl : l.length < k) (hk : l.length < 4611686018427387904) : f93 k l lo hi = some ((ris lo hi none l, ()), ()) := by
  unfold f93
  rw [show (0 : Int) = ((0 : Nat) : Int) from rfl, spec_ris_loop k l lo hi hk _ l 0 rfl k hl]
  show (bif ris lo hi none l then _ else _) = _
  cases ris lo hi none l <;> rfl

theorem impl_ris (k : Nat) (l : List Int) (lo hi : Int) (hl : l.length < k) (hk : l.length < 4611686018427387904) : f91 k l lo hi = some ((ris lo hi none l, ()), ()) := by
  unfold f91
  rw [show (0 : Int) = ((0 : Nat) : Int) from rfl, impl_ris_loop k l lo hi hk _ l 0 rfl k hl]
  show (bif ris lo hi none l then _ else _) = _
  cases ris lo hi none l <;> rfl

theorem ris_mem {lo hi : Int} : ∀ {p : Option Int} {l : List Int}, ris lo hi p l = true → ∀ x ∈ l, lo ≤ x ∧ x ≤ hi
  | _, [], _, x, hx => by cases hx
  | p, y :: l, h, x, hx => by
    simp only [ris, Bool.and_eq_true, decide_eq_true_eq] at h
    rcases List.mem_cons.1 hx with rfl | hx
    · exact h.1
    · exact ris_mem h.2.2 x hx

/-- Numbers that are 1 or -1. -/
def un (l : List Int) : Bool := l.all fun x => x == 1 || x == -1

theorem impl_unit (k : Nat) (x : Int) : f77 k x = some ((!(x == 1 || x == -1), ()), ()) := by
  unfold f77 f78
  cases x == 1 <;> rfl

theorem un_cons {x : Int} {r : List Int} : un (x :: r) = ((x == 1 || x == -1) && un r) := rfl

theorem impl_un_loop {ρ : Type} (k : Nat) (l : List Int) (hl : l.length < 4611686018427387904) (nx) : ∀ (rest : List Int) (i : Nat), l.drop i = rest → ∀ j, rest.length < j →
    ∃ n : Nat, f94_l2 (ρ := ρ) k j l (l.length : Int) (i : Int) nx = bif un rest then nx.1 ((), ()) else nx.2.1 (((n : Int), ()), ())
  | [], i, h, j, hj => by
    obtain ⟨j, rfl⟩ : ∃ q, j = q + 1 := ⟨j - 1, by simp at hj; omega⟩
    exact ⟨0, by simp only [f94_l2, out_nil h, cond_false]; rfl⟩
  | x :: rest, i, h, j, hj => by
    obtain ⟨j, rfl⟩ : ∃ q, j = q + 1 := ⟨j - 1, by simp at hj; omega⟩
    have hlt := lt_cons h
    obtain ⟨n, ih⟩ := impl_un_loop k l hl nx rest (i + 1) (next_cons h) j (by simpa using hj)
    simp only [f94_l2, in_cons h, cond_true, getI_cons h, Option.bind_some, impl_unit, wr_succ (show i < 4611686018427387904 by omega), un_cons]
    cases x == 1 || x == -1 with
    | true => exact ⟨n, by simp only [Bool.not_true, cond_false, Bool.true_and]; exact ih⟩
    | false => exact ⟨i, rfl⟩

theorem impl_un (k : Nat) (l : List Int) (hl : l.length < k) (hk : l.length < 4611686018427387904) : f49 k l = some ((un l, ()), ()) := by
  unfold f49 f76 f94
  obtain ⟨n, h⟩ := impl_un_loop k l hk (fun (_ : Unit × Unit) => some (((-1 : Int), ()), ()), fun (x9 : (Int × Unit) × Unit) => some ((x9.1.1, ()), ()), ()) l 0 rfl k hl
  rw [show (0 : Int) = ((0 : Nat) : Int) from rfl, h]
  cases un l with
  | true => rfl
  | false =>
    simp only [cond_false, Option.bind_some]
    rw [show decide ((n : Int) ≥ ((0 : Nat) : Int)) = true from decide_eq_true (by omega)]; rfl

/-- A valid rule. -/
def vr (n : Int) (r : Ru) : Bool := (decide (1 ≤ r.1) && decide (r.1 ≤ 4)) && (((r.2.1.length : Int) == r.1) && (((r.2.2.length : Int) == (r.2.1.length : Int)) && (ris 0 (n - 1) none r.2.1 && un r.2.2)))

def lens (k : Nat) (r : Ru) : Prop := r.2.1.length < k ∧ r.2.2.length < k

theorem impl_vr (k : Nat) (r : Ru) (n : Int) (h0 : 0 ≤ n) (h1 : n ≤ 200) (hl : lens k r) (hk : k ≤ 4611686018427387904) : f70 k r.1 r.2.1 r.2.2 n = some ((vr n r, ()), ()) := by
  unfold f70 vr
  simp only [impl_in, Option.bind_some]
  rw [dle h0, dle h1]
  simp only [Bool.and_true, cond_true]
  cases decide (1 ≤ r.1) && decide (r.1 ≤ 4) with
  | false => rfl
  | true =>
    simp only [cond_true, f48, Option.bind_some, Bool.true_and]
    cases (r.2.1.length : Int) == r.1 with
    | false => rfl
    | true =>
      simp only [cond_true, Bool.true_and]
      cases (r.2.2.length : Int) == (r.2.1.length : Int) with
      | false => rfl
      | true =>
        simp only [cond_true, Bool.true_and, wr_id (show -4611686018427387904 ≤ n - 1 by omega) (by omega)]
        rw [impl_ris k r.2.1 _ _ hl.1 (by have := hl.1; omega)]
        simp only [Option.bind_some]
        cases ris 0 (n - 1) none r.2.1 with
        | false => rfl
        | true =>
          simp only [cond_true, Bool.true_and]
          rw [impl_un k r.2.2 hl.2 (by have := hl.2; omega)]; rfl

theorem spec_un_loop {ρ : Type} (k : Nat) (r : Ru) (hl : r.2.2.length < 4611686018427387904) (nx) : ∀ (rest : List Int) (i : Nat), r.2.2.drop i = rest → ∀ j, rest.length < j →
    f75_l4 (ρ := ρ) k j r (i : Int) nx = bif un rest then nx.1 ((), ()) else nx.2.1 ((false, ()), ())
  | [], i, h, j, hj => by
    obtain ⟨j, rfl⟩ : ∃ q, j = q + 1 := ⟨j - 1, by simp at hj; omega⟩
    simp only [f75_l4, out_nil h, cond_false]; rfl
  | x :: rest, i, h, j, hj => by
    obtain ⟨j, rfl⟩ : ∃ q, j = q + 1 := ⟨j - 1, by simp at hj; omega⟩
    have hlt := lt_cons h
    have ih := spec_un_loop k r hl nx rest (i + 1) (next_cons h) j (by simpa using hj)
    simp only [f75_l4, in_cons h, cond_true, getI_cons h, Option.bind_some, wr_succ (show i < 4611686018427387904 by omega), un_cons]
    rw [show (x != 1) = !(x == 1) from rfl, show (x != -1) = !(x == -1) from rfl]
    cases x == 1 with
    | true => simp only [Bool.not_true, cond_false, Bool.true_or, Bool.true_and]; exact ih
    | false =>
      simp only [Bool.not_false, cond_true, Bool.false_or]
      cases x == -1 with
      | true => simp only [Bool.not_true, cond_false, Bool.true_and]; exact ih
      | false => rfl

theorem spec_vr (k : Nat) (r : Ru) (n : Int) (h0 : 0 ≤ n) (h1 : n ≤ 200) (hl : lens k r) (hk : k ≤ 4611686018427387904) : f75 k r n = some ((vr n r, ()), ()) := by
  unfold f75 vr
  simp only [spec_in, Option.bind_some]
  cases decide (1 ≤ r.1) && decide (r.1 ≤ 4) with
  | false => rfl
  | true =>
    simp only [Bool.not_true, cond_false, Bool.true_and]
    rw [show ((r.2.1.length : Int) != r.1) = !((r.2.1.length : Int) == r.1) from rfl]
    cases (r.2.1.length : Int) == r.1 with
    | false => rfl
    | true =>
      simp only [Bool.not_true, cond_false, Bool.true_and]
      rw [show ((r.2.2.length : Int) != (r.2.1.length : Int)) = !((r.2.2.length : Int) == (r.2.1.length : Int)) from rfl]
      cases (r.2.2.length : Int) == (r.2.1.length : Int) with
      | false => rfl
      | true =>
        simp only [Bool.not_true, cond_false, Bool.true_and, wr_id (show -4611686018427387904 ≤ n - 1 by omega) (by omega)]
        rw [spec_ris k r.2.1 _ _ hl.1 (by have := hl.1; omega)]
        simp only [Option.bind_some]
        cases ris 0 (n - 1) none r.2.1 with
        | false => rfl
        | true =>
          simp only [Bool.not_true, cond_false, Bool.true_and]
          rw [show (0 : Int) = ((0 : Nat) : Int) from rfl, spec_un_loop k r (by have := hl.2; omega) _ r.2.2 0 rfl k hl.2]
          cases un r.2.2 <;> rfl

def vrs (n : Int) (rs : List Ru) : Bool := rs.all (vr n)

theorem vrs_cons {n : Int} {x : Ru} {r : List Ru} : vrs n (x :: r) = (vr n x && vrs n r) := rfl

theorem spec_vrs_loop {ρ : Type} (k : Nat) (l : List Ru) (n : Int) (h0 : 0 ≤ n) (h1 : n ≤ 200) (hk : k ≤ 4611686018427387904) (hl : l.length < k) (hr : ∀ r ∈ l, lens k r) (nx) : ∀ (rest : List Ru) (i : Nat), l.drop i = rest → ∀ j, rest.length < j →
    f44_l4 (ρ := ρ) k j l n (i : Int) nx = bif vrs n rest then nx.1 ((), ()) else nx.2.1 ((false, ()), ())
  | [], i, h, j, hj => by
    obtain ⟨j, rfl⟩ : ∃ q, j = q + 1 := ⟨j - 1, by simp at hj; omega⟩
    simp only [f44_l4, out_nil h, cond_false]; rfl
  | x :: rest, i, h, j, hj => by
    obtain ⟨j, rfl⟩ : ∃ q, j = q + 1 := ⟨j - 1, by simp at hj; omega⟩
    have hlt := lt_cons h
    have ih := spec_vrs_loop k l n h0 h1 hk hl hr nx rest (i + 1) (next_cons h) j (by simpa using hj)
    simp only [f44_l4, in_cons h, cond_true, getI_cons h, Option.bind_some, wr_succ (show i < 4611686018427387904 by omega), vrs_cons]
    rw [spec_vr k x n h0 h1 (hr x (List.mem_of_getElem? (at_cons h))) hk]
    simp only [Option.bind_some]
    cases vr n x with
    | true => simp only [Bool.not_true, cond_false, Bool.true_and]; exact ih
    | false => rfl

theorem impl_vrs_loop {ρ : Type} (k : Nat) (l : List Ru) (n : Int) (h0 : 0 ≤ n) (h1 : n ≤ 200) (hk : k ≤ 4611686018427387904) (hl : l.length < k) (hr : ∀ r ∈ l, lens k r) (nx) : ∀ (rest : List Ru) (i : Nat), l.drop i = rest → ∀ j, rest.length < j →
    ∃ m : Nat, f79_l2 (ρ := ρ) k j l n (l.length : Int) (i : Int) nx = bif vrs n rest then nx.1 ((), ()) else nx.2.1 (((m : Int), ()), ())
  | [], i, h, j, hj => by
    obtain ⟨j, rfl⟩ : ∃ q, j = q + 1 := ⟨j - 1, by simp at hj; omega⟩
    exact ⟨0, by simp only [f79_l2, out_nil h, cond_false]; rfl⟩
  | x :: rest, i, h, j, hj => by
    obtain ⟨j, rfl⟩ : ∃ q, j = q + 1 := ⟨j - 1, by simp at hj; omega⟩
    have hlt := lt_cons h
    obtain ⟨m, ih⟩ := impl_vrs_loop k l n h0 h1 hk hl hr nx rest (i + 1) (next_cons h) j (by simpa using hj)
    simp only [f79_l2, in_cons h, cond_true, getI_cons h, Option.bind_some, wr_succ (show i < 4611686018427387904 by omega), vrs_cons, f69]
    rw [impl_vr k x n h0 h1 (hr x (List.mem_of_getElem? (at_cons h))) hk]
    simp only [Option.bind_some]
    cases vr n x with
    | true => exact ⟨m, by simp only [Bool.not_true, cond_false, Bool.true_and]; exact ih⟩
    | false => exact ⟨i, rfl⟩

/-- Valid rules for so many variables. -/
def valid (rs : List Ru) (n : Int) : Bool := (decide (0 ≤ n) && decide (n ≤ 200)) && (decide ((rs.length : Int) ≤ 3000) && vrs n rs)

theorem impl_valid (k : Nat) (rs : List Ru) (n : Int) (hk : k ≤ 4611686018427387904) (hl : rs.length < k) (hr : ∀ r ∈ rs, lens k r) : f39 k rs n = some ((valid rs n, ()), ()) := by
  unfold f39 valid
  simp only [impl_in, Option.bind_some]
  cases hb : decide (0 ≤ n) && decide (n ≤ 200) with
  | false => rfl
  | true =>
    rw [Bool.and_eq_true, decide_eq_true_eq, decide_eq_true_eq] at hb
    simp only [cond_true, Bool.true_and]
    cases decide ((rs.length : Int) ≤ 3000) with
    | false => rfl
    | true =>
      simp only [cond_true, Bool.true_and]
      unfold f50 f79
      obtain ⟨m, h⟩ := impl_vrs_loop k rs n hb.1 hb.2 hk hl hr (fun (_ : Unit × Unit) => some (((-1 : Int), ()), ()), fun (x10 : (Int × Unit) × Unit) => some ((x10.1.1, ()), ()), ()) rs 0 rfl k hl
      rw [show (0 : Int) = ((0 : Nat) : Int) from rfl, h]
      cases vrs n rs with
      | true => rfl
      | false =>
        simp only [cond_false, Option.bind_some]
        rw [show decide ((m : Int) ≥ ((0 : Nat) : Int)) = true from decide_eq_true (by omega)]; rfl

theorem spec_valid (k : Nat) (rs : List Ru) (n : Int) (hk : k ≤ 4611686018427387904) (hl : rs.length < k) (hr : ∀ r ∈ rs, lens k r) : f44 k rs n = some ((valid rs n, ()), ()) := by
  unfold f44 valid
  simp only [spec_in, Option.bind_some]
  by_cases h3 : (rs.length : Int) ≤ 3000
  · rw [show decide ((rs.length : Int) > 3000) = false from decide_eq_false (by omega), dle h3]
    simp only [cond_false, Bool.true_and]
    cases hb : decide (0 ≤ n) && decide (n ≤ 200) with
    | false => rfl
    | true =>
      rw [Bool.and_eq_true, decide_eq_true_eq, decide_eq_true_eq] at hb
      simp only [Bool.not_true, cond_false, Bool.true_and]
      rw [show (0 : Int) = ((0 : Nat) : Int) from rfl, spec_vrs_loop k rs n hb.1 hb.2 hk hl hr _ rs 0 rfl k hl]
      cases vrs n rs <;> rfl
  · rw [show decide ((rs.length : Int) > 3000) = true from decide_eq_true (by omega), show decide ((rs.length : Int) ≤ 3000) = false from decide_eq_false (by omega)]
    simp only [cond_true, Bool.false_and, Bool.and_false]

/-- A rule that can be asked: kinds, places, signs. -/
structure Rok (n : Nat) (r : Ru) : Prop where
  k1 : 1 ≤ r.1
  k4 : r.1 ≤ 4
  lv : (r.2.1.length : Int) = r.1
  ls : r.2.2.length = r.2.1.length
  v : ∀ x ∈ r.2.1, 0 ≤ x ∧ x < n
  s : ∀ x ∈ r.2.2, x = 1 ∨ x = -1

theorem rok_of {n : Nat} {r : Ru} (h : vr (n : Int) r = true) : Rok n r := by
  simp only [vr, Bool.and_eq_true, decide_eq_true_eq, beq_iff_eq] at h
  obtain ⟨⟨h1, h2⟩, h3, h4, h5, h6⟩ := h
  refine ⟨h1, h2, h3, by omega, fun x hx => ?_, fun x hx => ?_⟩
  · have := ris_mem h5 x hx; omega
  · have := List.all_eq_true.1 h6 x hx
    simpa using this

theorem roks_of {n : Int} {rs : List Ru} (h : valid rs n = true) : 0 ≤ n ∧ n ≤ 200 ∧ rs.length ≤ 3000 ∧ ∀ r ∈ rs, Rok n.toNat r := by
  simp only [valid, Bool.and_eq_true, decide_eq_true_eq] at h
  obtain ⟨⟨h1, h2⟩, h3, h4⟩ := h
  refine ⟨h1, h2, by omega, fun r hr => rok_of ?_⟩
  rw [show ((n.toNat : Nat) : Int) = n by omega]
  exact List.all_eq_true.1 h4 r hr
end Go.Proofs.Ytiilgicmdnllbaa.R
