/- The cones of both sides: places, intervals, overlaps. -/
import Derived.Test.YtlajiknepcjhgaaR1SeA
namespace Go.Proofs.Ytlajiknepcjhgaa.R
open Go.Proofs.Ytlajiknepcjhgaa.R1

def fromN {α : Type} (f : Nat → α) : Nat → Nat → List α
  | _, 0 => []
  | i, m + 1 => f i :: fromN f (i + 1) m

theorem fromN_length {α : Type} (f : Nat → α) : ∀ (m i : Nat), (fromN f i m).length = m
  | 0, _ => rfl
  | m + 1, i => by rw [fromN, List.length_cons, fromN_length f m]

theorem fromN_at {α : Type} (f : Nat → α) : ∀ (m i q : Nat), q < m → (fromN f i m)[q]? = some (f (i + q))
  | 0, _, _, h => by omega
  | m + 1, i, 0, _ => rfl
  | m + 1, i, q + 1, h => by rw [fromN, List.getElem?_cons_succ, fromN_at f m (i + 1) q (by omega), show i + 1 + q = i + (q + 1) by omega]

theorem fromN_snoc {α : Type} (f : Nat → α) : ∀ (m i : Nat), fromN f i (m + 1) = fromN f i m ++ [f (i + m)]
  | 0, i => rfl
  | m + 1, i => by
    rw [fromN, fromN_snoc f m (i + 1), fromN, List.cons_append, show i + 1 + m = i + (m + 1) by omega]

def g (l : List Int) (i : Nat) : Int := (l[i]?).getD 0

theorem at_g {l : List Int} {i : Nat} (h : i < l.length) : l[i]? = some (g l i) := by
  unfold g; rw [List.getElem?_eq_getElem h]; rfl

theorem getI_g {l : List Int} {i : Nat} (h : i < l.length) : getI l (i : Int) = some (g l i) := by rw [getI_nat, at_g h]

/-! ### Places -/
def plc : Bool → Int → List Int → List Int
  | _, _, [] => []
  | true, a, x :: r => a :: plc false (a + x) r
  | false, a, x :: r => a :: plc true (a - x) r

theorem plc_length : ∀ (b : Bool) (a : Int) (l : List Int), (plc b a l).length = l.length
  | _, _, [] => rfl
  | true, a, x :: r => by simp [plc, plc_length]
  | false, a, x :: r => by simp [plc, plc_length]

theorem room8 {l : List Int} {x : Int} (h : l.length ≤ 100000) : decide ((l.length + [x].length) * 8 ≤ roomy) = true := decide_eq_true (by simp only [List.length_singleton, roomy]; omega)

theorem places_loop {ρ : Type} (k : Nat) (l : List Int) (hl : l.length ≤ 16) (nx nx') : ∀ (rest : List Int) (i : Nat), l.drop i = rest → (∀ x ∈ rest, 1 ≤ x ∧ x ≤ 16) → ∀ j, rest.length < j → ∀ (a : Int) (acc : List Int), -16 * i ≤ a → a ≤ 16 * i → acc.length = i →
    f40_l4 (ρ := ρ) k j l a (i : Int) acc nx = nx.1 (((), ()), (acc ++ plc (par i) a rest, ())) ∧ f67_l4 (ρ := ρ) k j a l (l.length : Int) (i : Int) acc nx' = nx'.1 (((), ()), (acc ++ plc (par i) a rest, ()))
  | [], i, h, _, j, hj, a, acc, _, _, _ => by
    obtain ⟨j, rfl⟩ : ∃ q, j = q + 1 := ⟨j - 1, by simp at hj; omega⟩
    constructor
    · simp only [f40_l4, out_nil h, cond_false, plc, List.append_nil]
    · simp only [f67_l4, out_nil h, cond_false, plc, List.append_nil]
  | x :: rest, i, h, hm, j, hj, a, acc, a0, a1, hacc => by
    obtain ⟨j, rfl⟩ : ∃ q, j = q + 1 := ⟨j - 1, by simp at hj; omega⟩
    have hlt := lt_cons h
    have hx2 := hm x (List.mem_cons.2 (.inl rfl))
    have w1 : wr .i64 (a + x) = a + x := wr_id (by omega) (by omega)
    have w2 : wr .i64 (a - x) = a - x := wr_id (by omega) (by omega)
    have hm2 : ∀ y ∈ rest, 1 ≤ y ∧ y ≤ 16 := fun y hy => hm y (List.mem_cons.2 (.inr hy))
    have hla : (acc ++ [a]).length = i + 1 := by rw [List.length_append, List.length_singleton, hacc]
    have ih1 := places_loop (ρ := ρ) k l hl nx nx' rest (i + 1) (next_cons h) hm2 j (by simpa using hj) (a + x) (acc ++ [a]) (by omega) (by omega) hla
    have ih2 := places_loop (ρ := ρ) k l hl nx nx' rest (i + 1) (next_cons h) hm2 j (by simpa using hj) (a - x) (acc ++ [a]) (by omega) (by omega) hla
    constructor
    · simp only [f40_l4, in_cons h, cond_true, getI_cons h, Option.bind_some, room8 (show acc.length ≤ 100000 by omega), wr_succ (show i < 4611686018427387904 by omega), tmod_par, w1, w2]
      cases hp : par i with
      | true => simp only [cond_true]; rw [ih1.1, par_succ, hp]; simp [plc]
      | false => simp only [cond_false]; rw [ih2.1, par_succ, hp]; simp [plc]
    · simp only [f67_l4, in_cons h, cond_true, getI_cons h, Option.bind_some, room8 (show acc.length ≤ 100000 by omega), wr_succ (show i < 4611686018427387904 by omega), tmod_par, w1, w2]
      cases hp : par i with
      | true => simp only [cond_true]; rw [ih1.2, par_succ, hp]; simp [plc]
      | false => simp only [cond_false]; rw [ih2.2, par_succ, hp]; simp [plc]

theorem places_eq {k : Nat} {l : List Int} (hl : l.length ≤ 16) (hm : ∀ x ∈ l, 1 ≤ x ∧ x ≤ 16) (hk : 100 ≤ k) :
    f40 k l = some (((), ()), (plc true 0 l, ())) ∧ f67 k l = some (((), ()), (plc true 0 l, ())) := by
  have S := places_loop (ρ := (Unit × Unit) × ((List Int) × Unit)) k l hl (fun x8 : ((Unit × Unit) × ((List Int) × Unit)) => some (((), ()), (x8.2.1, ())), ()) (fun x13 : ((Unit × Unit) × ((List Int) × Unit)) => some (((), ()), (x13.2.1, ())), ()) l 0 rfl hm k (by omega) 0 [] (by omega) (by omega) rfl
  exact ⟨S.1, S.2⟩

/-! ### Intervals -/
def nx1 (n i : Nat) : Nat := (i + 1) % n

def lo (X : List Int) (n i : Nat) : Int := min (g X i) (g X (nx1 n i))
def hi (X : List Int) (n i : Nat) : Int := max (g X i) (g X (nx1 n i))

theorem min_eq (a b : Int) : (bif decide (a < b) then a else b) = min a b := by
  by_cases h : a < b
  · rw [decide_eq_true h, cond_true]; omega
  · rw [decide_eq_false h, cond_false]; omega

theorem max_eq (a b : Int) : (bif decide (a > b) then a else b) = max a b := by
  by_cases h : a > b
  · rw [decide_eq_true h, cond_true]; omega
  · rw [decide_eq_false h, cond_false]; omega

theorem spec_min (k : Nat) (a b : Int) : f41 k a b = some ((min a b, ()), ()) := by
  unfold f41; rw [← min_eq]; cases decide (a < b) <;> rfl

theorem spec_max (k : Nat) (a b : Int) : f42 k a b = some ((max a b, ()), ()) := by
  unfold f42; rw [← max_eq]; cases decide (a > b) <;> rfl

theorem tmodN (a n : Nat) : ((a : Int).tmod (n : Int)) = ((a % n : Nat) : Int) := by
  rw [Int.tmod_eq_emod_of_nonneg (by omega), Int.natCast_emod]

theorem tdivN (a n : Nat) : ((a : Int).tdiv (n : Int)) = ((a / n : Nat) : Int) := by
  rw [Int.tdiv_eq_ediv_of_nonneg (by omega), Int.natCast_ediv]

theorem wrN {a : Nat} (h : a ≤ 1000000) : wr .i64 (a : Int) = (a : Int) := wr_id (by omega) (by omega)

theorem step_i {n i : Nat} (hn : n ≤ 16) (h : i < n) : wr .i64 ((i : Int) + 1) = ((i + 1 : Nat) : Int) ∧ ((i + 1 : Nat) : Int).tmod (n : Int) = ((nx1 n i : Nat) : Int) ∧ nx1 n i < n :=
  ⟨wr_succ (by omega), tmodN (i + 1) n, Nat.mod_lt _ (by omega)⟩

theorem spec_new_loop {ρ : Type} (k n : Nat) (hn : 1 ≤ n) (h16 : n ≤ 16) (K X : List Int) (hX : X.length = n) (nx) : ∀ (m i : Nat), i + m = n → ∀ j, m < j →
    f24_l3 (ρ := ρ) k j (i : Int) (n : Int) K X (fromN (lo X n) 0 i) (fromN (hi X n) 0 i) nx = nx.1 (((), ()), (((n : Int), (), (), (), K, (), ()), X, fromN (lo X n) 0 n, fromN (hi X n) 0 n, ()))
  | 0, i, h, j, hj => by
    obtain ⟨j, rfl⟩ : ∃ q, j = q + 1 := ⟨j - 1, by omega⟩
    obtain rfl : i = n := by omega
    simp only [f24_l3]
    rw [dnlt (Int.le_refl _)]; rfl
  | m + 1, i, h, j, hj => by
    obtain ⟨j, rfl⟩ : ∃ q, j = q + 1 := ⟨j - 1, by omega⟩
    obtain ⟨s1, s2, s3⟩ := step_i h16 (show i < n by omega)
    have l1 := fromN_length (lo X n) i 0
    have l2 := fromN_length (hi X n) i 0
    have h1 := at_g (l := X) (i := i) (by omega)
    have h2 := at_g (l := X) (i := nx1 n i) (by omega)
    simp only [f24_l3, dlt (show (i : Int) < (n : Int) by omega), cond_true, bnd (show i < X.length by omega), Int.toNat_natCast, h1, Option.bind_some, s1, s2, bnd (show nx1 n i < X.length by omega), h2, spec_min, spec_max,
      decide_eq_false (show ¬ ((n : Int) = 0) by omega), cond_false, room8 (show (fromN (lo X n) 0 i).length ≤ 100000 by omega), room8 (show (fromN (hi X n) 0 i).length ≤ 100000 by omega)]
    have e1 := fromN_snoc (lo X n) i 0
    have e2 := fromN_snoc (hi X n) i 0
    rw [Nat.zero_add] at e1 e2
    rw [show min (g X i) (g X (nx1 n i)) = lo X n i from rfl, show max (g X i) (g X (nx1 n i)) = hi X n i from rfl, ← e1, ← e2]
    exact spec_new_loop k n hn h16 K X hX nx m (i + 1) (by omega) j (by omega)

def sp (X : List Int) (n i : Nat) : Int × Int := (lo X n i, hi X n i)

theorem impl_new_loop {ρ : Type} (k n : Nat) (hn : 1 ≤ n) (h16 : n ≤ 16) (v X : List Int) (hX : X.length = n) (nx) : ∀ (m i : Nat), i + m = n → ∀ j, m < j →
    f37_l3 (ρ := ρ) k j (n : Int) (i : Int) v (n : Int) X (fromN (sp X n) 0 i) nx = nx.1 (((), ()), (v, ((n : Int), (), (), (), ()), X, fromN (sp X n) 0 n, ()))
  | 0, i, h, j, hj => by
    obtain ⟨j, rfl⟩ : ∃ q, j = q + 1 := ⟨j - 1, by omega⟩
    obtain rfl : i = n := by omega
    simp only [f37_l3]
    rw [dnlt (Int.le_refl _)]; rfl
  | m + 1, i, h, j, hj => by
    obtain ⟨j, rfl⟩ : ∃ q, j = q + 1 := ⟨j - 1, by omega⟩
    obtain ⟨s1, s2, s3⟩ := step_i h16 (show i < n by omega)
    have l1 := fromN_length (sp X n) i 0
    have h1 := at_g (l := X) (i := i) (by omega)
    have h2 := at_g (l := X) (i := nx1 n i) (by omega)
    have room : ∀ x : Int × Int, decide (((fromN (sp X n) 0 i).length + [x].length) * 16 ≤ roomy) = true := fun x => decide_eq_true (by simp only [List.length_singleton, roomy]; omega)
    simp only [f37_l3, dlt (show (i : Int) < (n : Int) by omega), cond_true, bnd (show i < X.length by omega), Int.toNat_natCast, h1, Option.bind_some, s1, s2, bnd (show nx1 n i < X.length by omega), h2,
      decide_eq_false (show ¬ ((n : Int) = 0) by omega), cond_false, room]
    have e1 := fromN_snoc (sp X n) i 0
    rw [Nat.zero_add] at e1
    rw [show ((bif decide (g X (nx1 n i) < g X i) then g X (nx1 n i) else g X i), (bif decide (g X (nx1 n i) > g X i) then g X (nx1 n i) else g X i)) = sp X n i from by
      unfold sp lo hi; rw [min_eq, max_eq]; exact Prod.ext (by simp only; omega) (by simp only; omega), ← e1]
    exact impl_new_loop k n hn h16 v X hX nx m (i + 1) (by omega) j (by omega)

/-! ### Overlaps -/
def ov (X : List Int) (n i q : Nat) : Bool := decide (max (lo X n i) (lo X n q) < min (hi X n i) (hi X n q))

abbrev Sc (n : Nat) (X K o : List Int) : Int × (List Int × (List Int × (List Int × (List Int × List Int)))) := ((n : Int), (X, (fromN (lo X n) 0 n, (fromN (hi X n) 0 n, (K, o)))))
abbrev Ic (n : Nat) (X v : List Int) : Int × (List Int × (List (Int × Int) × List Int)) := ((n : Int), (X, (fromN (sp X n) 0 n, v)))

theorem lo_at {X : List Int} {n i : Nat} (h : i < n) : getI (fromN (lo X n) 0 n) (i : Int) = some (lo X n i) := by
  rw [getI_nat, fromN_at _ _ _ _ h, Nat.zero_add]
theorem hi_at {X : List Int} {n i : Nat} (h : i < n) : getI (fromN (hi X n) 0 n) (i : Int) = some (hi X n i) := by
  rw [getI_nat, fromN_at _ _ _ _ h, Nat.zero_add]
theorem sp_at {X : List Int} {n i : Nat} (h : i < n) : getI (fromN (sp X n) 0 n) (i : Int) = some (sp X n i) := by
  rw [getI_nat, fromN_at _ _ _ _ h, Nat.zero_add]

theorem s_ov {k n : Nat} {X K o : List Int} {i q : Nat} (hi' : i < n) (hq : q < n) : f43 k (Sc n X K o) (i : Int) (q : Int) = some ((decide (i ≠ q) && ov X n i q, ()), ()) := by
  unfold f43 ov
  simp only [lo_at hi', lo_at hq, hi_at hi', hi_at hq, Option.bind_some, spec_max, spec_min]
  by_cases h : i = q
  · subst h
    rw [show ((i : Int) != (i : Int)) = false from by simp, show decide (i ≠ i) = false from decide_eq_false (by simp)]; rfl
  · rw [show ((i : Int) != (q : Int)) = true from bne_iff_ne.2 (by omega), show decide (i ≠ q) = true from decide_eq_true h]; rfl

/-- The order at the beginning. -/
def ord0 (X : List Int) (n p : Nat) : Int := if p / n ≠ p % n ∧ ov X n (p / n) (p % n) = true then 2 else 0

theorem spec_ord_loop {ρ : Type} (k n : Nat) (hn : 1 ≤ n) (h8 : n ≤ 8) (K X : List Int) (nx) : ∀ (m i : Nat), i + m = n * n → ∀ j, m < j →
    f24_l10 (ρ := ρ) k j (i : Int) (n : Int) K X (fromN (lo X n) 0 n) (fromN (hi X n) 0 n) (fromN (ord0 X n) 0 i) nx = nx.1 (((), ()), (((n : Int), (), (), (), K, (), ()), X, fromN (lo X n) 0 n, fromN (hi X n) 0 n, fromN (ord0 X n) 0 (n * n), ()))
  | 0, i, h, j, hj => by
    obtain ⟨j, rfl⟩ : ∃ q, j = q + 1 := ⟨j - 1, by omega⟩
    have hnn : n * n ≤ 64 := Nat.mul_le_mul h8 h8
    obtain rfl : i = n * n := by omega
    simp only [f24_l10]
    rw [show (n : Int) * (n : Int) = ((n * n : Nat) : Int) from rfl, wrN (by omega), dnlt (Int.le_refl _)]; rfl
  | m + 1, i, h, j, hj => by
    obtain ⟨j, rfl⟩ : ∃ q, j = q + 1 := ⟨j - 1, by omega⟩
    have hnn : n * n ≤ 64 := Nat.mul_le_mul h8 h8
    have l1 := fromN_length (ord0 X n) i 0
    have hq : i / n < n := Nat.div_lt_of_lt_mul (by omega)
    have hr : i % n < n := Nat.mod_lt _ (by omega)
    have e1 := fromN_snoc (ord0 X n) i 0
    rw [Nat.zero_add] at e1
    have ih := spec_ord_loop (ρ := ρ) k n hn h8 K X nx m (i + 1) (by omega) j (by omega)
    rw [e1] at ih
    simp only [f24_l10]
    rw [show (n : Int) * (n : Int) = ((n * n : Nat) : Int) from rfl, wrN (by omega), dlt (show (i : Int) < ((n * n : Nat) : Int) by omega), tdivN, tmodN, wrN (show i / n ≤ 1000000 by omega)]
    simp only [cond_true, decide_eq_false (show ¬ ((n : Int) = 0) by omega), cond_false, s_ov (K := K) (o := fromN (ord0 X n) 0 i) hq hr, Option.bind_some, f24_j15, room8 (show (fromN (ord0 X n) 0 i).length ≤ 100000 by omega), wr_succ (show i < 4611686018427387904 by omega)]
    by_cases c : i / n ≠ i % n ∧ ov X n (i / n) (i % n) = true
    · rw [show (decide (i / n ≠ i % n) && ov X n (i / n) (i % n)) = true from by rw [decide_eq_true c.1, c.2]; rfl]
      rw [show ord0 X n i = 2 from if_pos c] at ih
      exact ih
    · rw [show (decide (i / n ≠ i % n) && ov X n (i / n) (i % n)) = false from by
        cases q : decide (i / n ≠ i % n) && ov X n (i / n) (i % n) with
        | false => rfl
        | true => rw [Bool.and_eq_true, decide_eq_true_eq] at q; exact absurd q c]
      rw [show ord0 X n i = 0 from if_neg c] at ih
      exact ih

theorem spec_new {k : Nat} {l : List Int} (h1 : 1 ≤ l.length) (h8 : l.length ≤ 8) (hm : ∀ x ∈ l, 1 ≤ x ∧ x ≤ 16) (hk : 100 ≤ k) (K : List Int) :
    f24 k l K = some (((), ()), (((l.length : Int), (), (), (), K, (), ()), plc true 0 l, fromN (lo (plc true 0 l) l.length) 0 l.length, fromN (hi (plc true 0 l) l.length) 0 l.length, fromN (ord0 (plc true 0 l) l.length) 0 (l.length * l.length), ())) := by
  unfold f24
  have hnn : l.length * l.length ≤ 64 := Nat.mul_le_mul h8 h8
  rw [(places_eq (by omega) hm hk).1, Option.bind_some]
  refine (spec_new_loop k l.length h1 (by omega) K _ (plc_length _ _ _) _ l.length 0 (by omega) k (by omega)).trans ?_
  exact spec_ord_loop k l.length h1 h8 K _ _ (l.length * l.length) 0 (by omega) k (by omega)

theorem impl_new {k : Nat} {l : List Int} (h1 : 1 ≤ l.length) (h8 : l.length ≤ 8) (hm : ∀ x ∈ l, 1 ≤ x ∧ x ≤ 16) (hk : 100 ≤ k) (v : List Int) :
    f37 k l v = some (((), ()), (v, ((l.length : Int), (), (), (), ()), plc true 0 l, fromN (sp (plc true 0 l) l.length) 0 l.length, ())) := by
  unfold f37
  rw [(places_eq (by omega) hm hk).2, Option.bind_some]
  have hp := plc_length true 0 l
  simp only [hp]
  exact impl_new_loop k l.length h1 (by omega) v _ hp _ l.length 0 (by omega) k (by omega)
end Go.Proofs.Ytlajiknepcjhgaa.R
