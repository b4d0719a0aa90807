/- Cones and kinds that are valid: both sides say the same. -/
import Derived.Test.YtlajiknepcjhgaaR1Se0
namespace Go.Proofs.Ytlajiknepcjhgaa.R
open Go.Proofs.Ytlajiknepcjhgaa.R1

theorem impl_in (k : Nat) (x lo hi : Int) : f46 k x lo hi = some ((decide (lo ≤ x) && decide (x ≤ hi), ()), ()) := by
  unfold f46
  by_cases h : lo ≤ x
  · rw [show decide (x ≥ lo) = true from decide_eq_true h]; rfl
  · rw [show decide (x ≥ lo) = false from decide_eq_false h]; rfl

theorem spec_in (k : Nat) (x lo hi : Int) : f39 k x lo hi = some ((decide (lo ≤ x) && decide (x ≤ hi), ()), ()) := by
  unfold f39
  by_cases h : lo ≤ x
  · rw [show decide (x ≥ lo) = true from decide_eq_true h]; rfl
  · rw [show decide (x ≥ lo) = false from decide_eq_false h]; rfl

/-- All within bounds. -/
def allIn (lo hi : Int) (l : List Int) : Bool := l.all fun x => decide (lo ≤ x) && decide (x ≤ hi)

theorem allIn_cons {lo hi x : Int} {r : List Int} : allIn lo hi (x :: r) = ((decide (lo ≤ x) && decide (x ≤ hi)) && allIn lo hi r) := rfl

/-- The sum, and the sums of every second one. -/
def sm : List Int → Int
  | [] => 0
  | x :: r => x + sm r

def ev : Bool → List Int → Int
  | _, [] => 0
  | true, x :: r => x + ev false r
  | false, _ :: r => ev true r

def al : Bool → List Int → Int
  | _, [] => 0
  | true, x :: r => x + al false r
  | false, x :: r => -x + al true r

theorem al_ev : ∀ (b : Bool) (l : List Int), al b l = 2 * ev b l - sm l
  | _, [] => by simp [al, ev, sm]
  | true, x :: r => by have := al_ev false r; simp only [al, ev, sm]; omega
  | false, x :: r => by have := al_ev true r; simp only [al, ev, sm]; omega

theorem sm_bound : ∀ {l : List Int}, (∀ x ∈ l, 1 ≤ x ∧ x ≤ 16) → 0 ≤ sm l ∧ sm l ≤ 16 * l.length
  | [], _ => by simp [sm]
  | x :: r, h => by
    have h1 := h x (List.mem_cons.2 (.inl rfl))
    have h2 := sm_bound (l := r) fun y hy => h y (List.mem_cons.2 (.inr hy))
    simp only [sm, List.length_cons]; omega

theorem ev_bound : ∀ {b : Bool} {l : List Int}, (∀ x ∈ l, 1 ≤ x ∧ x ≤ 16) → 0 ≤ ev b l ∧ ev b l ≤ 16 * l.length
  | _, [], _ => by simp [ev]
  | true, x :: r, h => by
    have h1 := h x (List.mem_cons.2 (.inl rfl))
    have h2 := ev_bound (b := false) (l := r) fun y hy => h y (List.mem_cons.2 (.inr hy))
    simp only [ev, List.length_cons]; omega
  | false, x :: r, h => by
    have h2 := ev_bound (b := true) (l := r) fun y hy => h y (List.mem_cons.2 (.inr hy))
    simp only [ev, List.length_cons]; omega

theorem allIn_mem {lo hi : Int} {l : List Int} (h : allIn lo hi l = true) : ∀ x ∈ l, lo ≤ x ∧ x ≤ hi := fun x hx => by
  have := List.all_eq_true.1 h x hx
  simpa using this

def par (i : Nat) : Bool := decide (i % 2 = 0)

theorem par_succ (i : Nat) : par (i + 1) = !par i := by
  unfold par
  by_cases h : i % 2 = 0
  · rw [decide_eq_true h, decide_eq_false (by omega)]; rfl
  · rw [decide_eq_false h, decide_eq_true (by omega)]; rfl

theorem tmod_par (i : Nat) : (((i : Int).tmod 2) == 0) = par i := by
  rw [Int.tmod_eq_emod_of_nonneg (by omega)]
  unfold par
  by_cases h : i % 2 = 0
  · rw [decide_eq_true h, beq_iff_eq]; omega
  · rw [decide_eq_false h, beq_eq_false_iff_ne]; omega

theorem tmod_odd (i : Nat) : (((i : Int).tmod 2) == 1) = !par i := by
  rw [Int.tmod_eq_emod_of_nonneg (by omega)]
  unfold par
  by_cases h : i % 2 = 0
  · rw [decide_eq_true h, Bool.not_true, beq_eq_false_iff_ne]; omega
  · rw [decide_eq_false h, Bool.not_false, beq_iff_eq]; omega

/-- Whether a list is a cone. -/
def cone (l : List Int) : Bool := (decide (2 ≤ l.length) && decide (l.length ≤ 16)) && (par l.length && (allIn 1 16 l && (decide (sm l ≤ 16) && (2 * ev true l == sm l))))

theorem spec_cone_loop {ρ : Type} (k : Nat) (l : List Int) (hl : l.length ≤ 16) (nx) : ∀ (rest : List Int) (i : Nat), l.drop i = rest → ∀ j, rest.length < j → ∀ a b : Int, 0 ≤ a → a ≤ 16 * i → 0 ≤ b → b ≤ 16 * i →
    f22_l6 (ρ := ρ) k j l a b (i : Int) nx = bif allIn 1 16 rest then nx.1 ((a + sm rest, b + ev (par i) rest, ()), ()) else nx.2.1 ((false, ()), ())
  | [], i, h, j, hj, a, b, _, _, _, _ => by
    obtain ⟨j, rfl⟩ : ∃ q, j = q + 1 := ⟨j - 1, by simp at hj; omega⟩
    simp only [f22_l6, out_nil h, cond_false, sm, ev, Int.add_zero]; rfl
  | x :: rest, i, h, j, hj, a, b, a0, a1, b0, b1 => by
    obtain ⟨j, rfl⟩ : ∃ q, j = q + 1 := ⟨j - 1, by simp at hj; omega⟩
    have hlt := lt_cons h
    simp only [f22_l6, in_cons h, cond_true, getI_cons h, Option.bind_some, spec_in, allIn_cons, wr_succ (show i < 4611686018427387904 by omega), tmod_par]
    cases hx : decide (1 ≤ x) && decide (x ≤ 16) with
    | false => rfl
    | true =>
      have hx2 : 1 ≤ x ∧ x ≤ 16 := by simpa using hx
      have w1 : wr .i64 (a + x) = a + x := wr_id (by omega) (by omega)
      have w2 : wr .i64 (b + x) = b + x := wr_id (by omega) (by omega)
      simp only [Bool.not_true, cond_false, Bool.true_and, w1, w2]
      cases hp : par i with
      | true =>
        simp only [cond_true]
        rw [spec_cone_loop k l hl nx rest (i + 1) (next_cons h) j (by simpa using hj) (a + x) (b + x) (by omega) (by omega) (by omega) (by omega), par_succ, hp]
        simp only [sm, ev, Bool.not_true, Int.add_assoc]
      | false =>
        simp only [cond_false]
        rw [spec_cone_loop k l hl nx rest (i + 1) (next_cons h) j (by simpa using hj) (a + x) b (by omega) (by omega) (by omega) (by omega), par_succ, hp]
        simp only [sm, ev, Bool.not_false, Int.add_assoc]

theorem spec_cone {k : Nat} (hk : 100 ≤ k) (l : List Int) : f22 k l = some ((cone l, ()), ()) := by
  unfold f22 cone
  by_cases h1 : (l.length : Int) < 2
  · rw [dlt h1, show decide (2 ≤ l.length) = false from decide_eq_false (by omega)]; rfl
  rw [dnlt (by omega), show decide (2 ≤ l.length) = true from decide_eq_true (by omega)]
  by_cases h2 : (l.length : Int) > 16
  · rw [show decide ((l.length : Int) > 16) = true from decide_eq_true h2, show decide (l.length ≤ 16) = false from decide_eq_false (by omega)]; rfl
  rw [show decide ((l.length : Int) > 16) = false from decide_eq_false h2, show decide (l.length ≤ 16) = true from decide_eq_true (by omega)]
  have h3 : (((l.length : Int).tmod 2) != 0) = !par l.length := by unfold bne; rw [tmod_par]
  rw [h3]
  cases hp : par l.length with
  | false => rfl
  | true =>
    simp only [Bool.not_true, cond_false, Bool.true_and]
    rw [show (0 : Int) = ((0 : Nat) : Int) from rfl, spec_cone_loop k l (by omega) _ l 0 rfl k (by omega) ((0 : Nat) : Int) ((0 : Nat) : Int) (by omega) (by omega) (by omega) (by omega)]
    cases ha : allIn 1 16 l with
    | false => rfl
    | true =>
      have hm := allIn_mem ha
      have e1 := ev_bound (b := true) hm
      have w : wr .i64 (2 * ev true l) = 2 * ev true l := wr_id (by omega) (by omega)
      simp only [cond_true, Bool.true_and, show par 0 = true from rfl]
      rw [show ((0 : Nat) : Int) + sm l = sm l by omega, show ((0 : Nat) : Int) + ev true l = ev true l by omega, w]
      cases decide (sm l ≤ 16) <;> rfl

theorem impl_fn49 (k : Nat) (x : Int) : f49 k x = some ((!(decide (1 ≤ x) && decide (x ≤ 16)), ()), ()) := by
  unfold f49; rw [impl_in]; rfl

theorem impl_all_loop {ρ : Type} (k : Nat) (l : List Int) (hl : l.length < 4611686018427387904) (nx) : ∀ (rest : List Int) (i : Nat), l.drop i = rest → ∀ j, rest.length < j →
    ∃ n : Nat, f73_l2 (ρ := ρ) k j l (l.length : Int) (i : Int) nx = bif allIn 1 16 rest then nx.1 ((), ()) else nx.2.1 (((n : Int), ()), ())
  | [], i, h, j, hj => by
    obtain ⟨j, rfl⟩ : ∃ q, j = q + 1 := ⟨j - 1, by simp at hj; omega⟩
    exact ⟨0, by simp only [f73_l2, out_nil h, cond_false]; rfl⟩
  | x :: rest, i, h, j, hj => by
    obtain ⟨j, rfl⟩ : ∃ q, j = q + 1 := ⟨j - 1, by simp at hj; omega⟩
    have hlt := lt_cons h
    obtain ⟨n, ih⟩ := impl_all_loop (ρ := ρ) k l hl nx rest (i + 1) (next_cons h) j (by simpa using hj)
    simp only [f73_l2, in_cons h, cond_true, getI_cons h, Option.bind_some, impl_fn49, allIn_cons, wr_succ (show i < 4611686018427387904 by omega)]
    cases decide (1 ≤ x) && decide (x ≤ 16) with
    | false => exact ⟨i, rfl⟩
    | true => exact ⟨n, ih⟩

theorem impl_all (k : Nat) (l : List Int) (hl : l.length < k) (hk : l.length < 4611686018427387904) : f48 k l = some ((!allIn 1 16 l, ()), ()) := by
  unfold f48 f73
  obtain ⟨n, h⟩ := impl_all_loop k l hk (fun (_ : Unit × Unit) => some (((-1 : Int), ()), ()), fun (x9 : (Int × Unit) × Unit) => some ((x9.1.1, ()), ()), ()) l 0 rfl k hl
  rw [show (0 : Int) = ((0 : Nat) : Int) from rfl, h]
  cases allIn 1 16 l with
  | true => rfl
  | false =>
    simp only [cond_false, Option.bind_some]
    rw [show decide ((n : Int) ≥ ((0 : Nat) : Int)) = true from decide_eq_true (by omega)]; rfl

theorem impl_sum_loop {ρ : Type} (k : Nat) (l : List Int) (hl : l.length ≤ 16) (nx) : ∀ (rest : List Int) (i : Nat), l.drop i = rest → (∀ x ∈ rest, 1 ≤ x ∧ x ≤ 16) → ∀ j, rest.length < j → ∀ a : Int, -16 * i ≤ a → a ≤ 16 * i →
    f50_l3 (ρ := ρ) k j a l (l.length : Int) (i : Int) nx = nx.1 ((a + sm rest, ()), ()) ∧ f51_l3 (ρ := ρ) k j a l (l.length : Int) (i : Int) nx = nx.1 ((a + al (par i) rest, ()), ())
  | [], i, h, _, j, hj, a, _, _ => by
    obtain ⟨j, rfl⟩ : ∃ q, j = q + 1 := ⟨j - 1, by simp at hj; omega⟩
    constructor
    · simp only [f50_l3, out_nil h, cond_false, sm, Int.add_zero]
    · simp only [f51_l3, out_nil h, cond_false, al, Int.add_zero]
  | x :: rest, i, h, hm, j, hj, a, a0, a1 => by
    obtain ⟨j, rfl⟩ : ∃ q, j = q + 1 := ⟨j - 1, by simp at hj; omega⟩
    have hlt := lt_cons h
    have hx2 := hm x (List.mem_cons.2 (.inl rfl))
    have w1 : wr .i64 (a + x) = a + x := wr_id (by omega) (by omega)
    have w2 : wr .i64 (a - x) = a - x := wr_id (by omega) (by omega)
    have hm2 : ∀ y ∈ rest, 1 ≤ y ∧ y ≤ 16 := fun y hy => hm y (List.mem_cons.2 (.inr hy))
    have ih1 := impl_sum_loop (ρ := ρ) k l hl nx rest (i + 1) (next_cons h) hm2 j (by simpa using hj) (a + x) (by omega) (by omega)
    have ih2 := impl_sum_loop (ρ := ρ) k l hl nx rest (i + 1) (next_cons h) hm2 j (by simpa using hj) (a - x) (by omega) (by omega)
    constructor
    · simp only [f50_l3, in_cons h, cond_true, getI_cons h, Option.bind_some, wr_succ (show i < 4611686018427387904 by omega), w1]
      rw [ih1.1]
      simp only [sm, Int.add_assoc]
    · simp only [f51_l3, in_cons h, cond_true, getI_cons h, Option.bind_some, wr_succ (show i < 4611686018427387904 by omega), w1, w2, tmod_par]
      cases hp : par i with
      | true =>
        simp only [cond_true]
        rw [ih1.2, par_succ, hp]
        simp only [al, Bool.not_true, Int.add_assoc]
      | false =>
        simp only [cond_false]
        rw [ih2.2, par_succ, hp]
        simp only [al, Bool.not_false]
        rw [show a - x + al true rest = a + (-x + al true rest) by omega]

theorem impl_cone {k : Nat} (hk : 100 ≤ k) (l : List Int) (hlk : l.length < k) (hl2 : l.length < 4611686018427387904) : f26 k l = some ((cone l, ()), ()) := by
  unfold f26 f47 cone
  simp only [Option.bind_some, impl_in]
  rw [show (decide ((2 : Int) ≤ (l.length : Int)) && decide ((l.length : Int) ≤ 16)) = (decide (2 ≤ l.length) && decide (l.length ≤ 16)) from by
    congr 1 <;> rw [decide_eq_decide] <;> omega]
  cases hn : decide (2 ≤ l.length) && decide (l.length ≤ 16) with
  | false => rfl
  | true =>
    have hn2 : 2 ≤ l.length ∧ l.length ≤ 16 := by simpa using hn
    simp only [Bool.not_true, cond_false, tmod_odd, Bool.true_and]
    cases hp : par l.length with
    | false => rfl
    | true =>
      simp only [Bool.not_true, cond_false, impl_all k l hlk hl2, Option.bind_some, Bool.true_and]
      cases ha : allIn 1 16 l with
      | false => rfl
      | true =>
        have hm := allIn_mem ha
        have S := fun {ρ : Type} (nx) => impl_sum_loop (ρ := ρ) k l hn2.2 nx l 0 rfl hm k hlk 0 (by omega) (by omega)
        have e1 := fun nx => (S (ρ := (Int × Unit) × Unit) nx).1
        have e2 := fun nx => (S (ρ := (Int × Unit) × Unit) nx).2
        simp only [Bool.not_true, Bool.not_false, cond_true, Bool.true_and]
        have f1 : f50 k l = some ((sm l, ()), ()) := by
          unfold f50
          refine (e1 _).trans ?_
          simp only [Int.zero_add]
        have f2 : f51 k l = some ((al true l, ()), ()) := by
          unfold f51
          refine (e2 _).trans ?_
          simp only [Int.zero_add]; rfl
        rw [f1, Option.bind_some, f2]
        cases decide (sm l ≤ 16) with
        | false => rfl
        | true =>
          simp only [cond_true, Option.bind_some, Bool.true_and]
          have hal := al_ev true l
          rw [show (al true l == 0) = (2 * ev true l == sm l) from by rw [Bool.eq_iff_iff, beq_iff_eq, beq_iff_eq]; omega]

/-! ### Kinds -/
def kindsOk (l ks : List Int) : Bool := allIn 2 4 ks && decide (ks.length = l.length)

theorem spec_kinds_loop {ρ : Type} (k : Nat) (l ks : List Int) (hl : ks.length < 4611686018427387904) (nx) : ∀ (rest : List Int) (i : Nat), ks.drop i = rest → ∀ j, rest.length < j →
    f23_l2 (ρ := ρ) k j l ks true (i : Int) nx = bif allIn 2 4 rest then nx.1 ((l, ks, ()), ()) else nx.2.1 ((false, ()), ())
  | [], i, h, j, hj => by
    obtain ⟨j, rfl⟩ : ∃ q, j = q + 1 := ⟨j - 1, by simp at hj; omega⟩
    simp only [f23_l2, out_nil h, cond_false]; rfl
  | x :: rest, i, h, j, hj => by
    obtain ⟨j, rfl⟩ : ∃ q, j = q + 1 := ⟨j - 1, by simp at hj; omega⟩
    have hlt := lt_cons h
    have ih := spec_kinds_loop (ρ := ρ) k l ks hl nx rest (i + 1) (next_cons h) j (by simpa using hj)
    simp only [f23_l2, in_cons h, cond_true, getI_cons h, Option.bind_some, allIn_cons, wr_succ (show i < 4611686018427387904 by omega), ih]
    by_cases h2 : x = 2
    · subst h2; rfl
    by_cases h3 : x = 3
    · subst h3; rfl
    by_cases h4 : x = 4
    · subst h4; rfl
    rw [show (x != 2) = true from bne_iff_ne.2 h2, show (x != 3) = true from bne_iff_ne.2 h3, show (x == 4) = false from beq_eq_false_iff_ne.2 h4,
      show (decide (2 ≤ x) && decide (x ≤ 4)) = false from by rw [Bool.and_eq_false_iff, decide_eq_false_iff_not, decide_eq_false_iff_not]; omega]
    rfl

theorem spec_kinds {k : Nat} (l ks : List Int) (hk : ks.length < k) (hl : ks.length < 4611686018427387904) : f23 k l ks true = some ((kindsOk l ks, ()), ()) := by
  unfold f23 kindsOk
  rw [show (0 : Int) = ((0 : Nat) : Int) from rfl, spec_kinds_loop k l ks hl _ ks 0 rfl k hk]
  cases allIn 2 4 ks with
  | false => rfl
  | true =>
    simp only [cond_true, Bool.true_and]
    rw [show (((ks.length : Nat) : Int) == ((l.length : Nat) : Int)) = decide (ks.length = l.length) from by rw [Bool.eq_iff_iff, beq_iff_eq, decide_eq_true_eq]; omega]

theorem impl_fn52 (k : Nat) (x : Int) : f52 k x 4 = some ((!(decide (2 ≤ x) && decide (x ≤ 4)), ()), ()) := by
  unfold f52; rw [impl_in]; rfl

theorem impl_kall_loop {ρ : Type} (k : Nat) (l : List Int) (hl : l.length < 4611686018427387904) (nx) : ∀ (rest : List Int) (i : Nat), l.drop i = rest → ∀ j, rest.length < j →
    ∃ n : Nat, f73a_l2 (ρ := ρ) k j l 4 (l.length : Int) (i : Int) nx = bif allIn 2 4 rest then nx.1 ((), ()) else nx.2.1 (((n : Int), ()), ())
  | [], i, h, j, hj => by
    obtain ⟨j, rfl⟩ : ∃ q, j = q + 1 := ⟨j - 1, by simp at hj; omega⟩
    exact ⟨0, by simp only [f73a_l2, out_nil h, cond_false]; rfl⟩
  | x :: rest, i, h, j, hj => by
    obtain ⟨j, rfl⟩ : ∃ q, j = q + 1 := ⟨j - 1, by simp at hj; omega⟩
    have hlt := lt_cons h
    obtain ⟨n, ih⟩ := impl_kall_loop (ρ := ρ) k l hl nx rest (i + 1) (next_cons h) j (by simpa using hj)
    simp only [f73a_l2, in_cons h, cond_true, getI_cons h, Option.bind_some, impl_fn52, allIn_cons, wr_succ (show i < 4611686018427387904 by omega)]
    cases decide (2 ≤ x) && decide (x ≤ 4) with
    | false => exact ⟨i, rfl⟩
    | true => exact ⟨n, ih⟩

theorem impl_kinds {k : Nat} (l ks : List Int) (hk : ks.length < k) (hl : ks.length < 4611686018427387904) : f27 k l ks true = some ((kindsOk l ks, ()), ()) := by
  unfold f27 f27_j4 kindsOk
  simp only [cond_true]
  rw [show (((ks.length : Nat) : Int) == ((l.length : Nat) : Int)) = decide (ks.length = l.length) from by rw [Bool.eq_iff_iff, beq_iff_eq, decide_eq_true_eq]; omega]
  cases decide (ks.length = l.length) with
  | false => rw [Bool.and_false]; rfl
  | true =>
    simp only [cond_true, Bool.and_true]
    unfold f48a f73a
    obtain ⟨n, h⟩ := impl_kall_loop k ks hl (fun (_ : Unit × Unit) => some (((-1 : Int), ()), ()), fun (x9 : (Int × Unit) × Unit) => some ((x9.1.1, ()), ()), ()) ks 0 rfl k hk
    rw [show (0 : Int) = ((0 : Nat) : Int) from rfl, h]
    cases allIn 2 4 ks with
    | true => rfl
    | false =>
      simp only [cond_false, Option.bind_some]
      rw [show decide ((n : Int) ≥ ((0 : Nat) : Int)) = true from decide_eq_true (by omega)]; rfl
end Go.Proofs.Ytlajiknepcjhgaa.R
