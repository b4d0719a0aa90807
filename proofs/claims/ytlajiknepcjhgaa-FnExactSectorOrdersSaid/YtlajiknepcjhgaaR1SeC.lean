/- What the reference asks of an order. -/
import Derived.Test.YtlajiknepcjhgaaR1SeB
namespace Go.Proofs.Ytlajiknepcjhgaa.R
open Go.Proofs.Ytlajiknepcjhgaa.R1

def anyN (f : Nat → Bool) : Nat → Nat → Bool
  | _, 0 => false
  | i, m + 1 => f i || anyN f (i + 1) m

theorem anyN_iff {f : Nat → Bool} : ∀ {m i : Nat}, anyN f i m = true ↔ ∃ q, i ≤ q ∧ q < i + m ∧ f q = true
  | 0, i => ⟨fun h => (by cases h), fun ⟨q, h1, h2, _⟩ => by omega⟩
  | m + 1, i => by
    rw [anyN, Bool.or_eq_true, anyN_iff (m := m) (i := i + 1)]
    constructor
    · rintro (h | ⟨q, h1, h2, h3⟩)
      · exact ⟨i, by omega, by omega, h⟩
      · exact ⟨q, by omega, by omega, h3⟩
    · rintro ⟨q, h1, h2, h3⟩
      by_cases e : q = i
      · subst e; exact .inl h3
      · exact .inr ⟨q, by omega, by omega, h3⟩

theorem idx_lt {n i q : Nat} (hi : i < n) (hq : q < n) : i * n + q < n * n := by
  have : (i + 1) * n ≤ n * n := Nat.mul_le_mul_right n hi
  rw [Nat.add_mul] at this; omega

theorem idx_wr {n i q : Nat} (h8 : n ≤ 8) (hi : i < n) (hq : q < n) : wr .i64 (wr .i64 ((i : Int) * (n : Int)) + (q : Int)) = ((i * n + q : Nat) : Int) := by
  have h1 := idx_lt hi hq
  have h2 : n * n ≤ 64 := Nat.mul_le_mul h8 h8
  rw [show (i : Int) * (n : Int) = ((i * n : Nat) : Int) from rfl, wrN (by omega), show ((i * n : Nat) : Int) + (q : Int) = ((i * n + q : Nat) : Int) from rfl, wrN (by omega)]

/-- That one sector is above another one. -/
def up (o : List Int) (n i q : Nat) : Bool := g o (i * n + q) == 1

section
variable {k n : Nat} {X K o : List Int}

theorem s_is (h8 : n ≤ 8) (ho : o.length = n * n) {i q : Nat} (hi : i < n) (hq : q < n) : f95 k (Sc n X K o) (i : Int) (q : Int) = some ((g o (i * n + q), ()), ()) := by
  unfold f95
  simp only [idx_wr h8 hi hq, getI_g (show i * n + q < o.length by rw [ho]; exact idx_lt hi hq), Option.bind_some]

theorem s_above (h8 : n ≤ 8) (ho : o.length = n * n) {i q : Nat} (hi : i < n) (hq : q < n) : f92 k (Sc n X K o) (i : Int) (q : Int) = some ((up o n i q, ()), ()) := by
  unfold f92
  rw [s_is h8 ho hi hq]; rfl

def bt (o : List Int) (n i a b : Nat) : Bool := (up o n a i && up o n i b) || (up o n b i && up o n i a)
def ot (o : List Int) (n i a b : Nat) : Bool := (up o n a i && up o n b i) || (up o n i a && up o n i b)

theorem s_between (h8 : n ≤ 8) (ho : o.length = n * n) {i a b : Nat} (hi : i < n) (ha : a < n) (hb : b < n) : f89 k (Sc n X K o) (i : Int) (a : Int) (b : Int) = some ((bt o n i a b, ()), ()) := by
  unfold f89 bt
  simp only [s_above h8 ho ha hi, s_above h8 ho hi hb, s_above h8 ho hb hi, s_above h8 ho hi ha, Option.bind_some]
  cases up o n a i <;> cases up o n i b <;> cases up o n b i <;> rfl

theorem s_outside (h8 : n ≤ 8) (ho : o.length = n * n) {i a b : Nat} (hi : i < n) (ha : a < n) (hb : b < n) : f91 k (Sc n X K o) (i : Int) (a : Int) (b : Int) = some ((ot o n i a b, ()), ()) := by
  unfold f91 ot
  simp only [s_above h8 ho ha hi, s_above h8 ho hi hb, s_above h8 ho hb hi, s_above h8 ho hi ha, Option.bind_some]
  cases up o n a i <;> cases up o n i b <;> cases up o n b i <;> cases up o n i a <;> rfl

def bf (n i : Nat) : Nat := (i + n - 1) % n

theorem bf_lt {i : Nat} (hi : i < n) : bf n i < n := Nat.mod_lt _ (by omega)

theorem bf_wr (h8 : n ≤ 8) {i : Nat} (hi : i < n) : (wr .i64 (wr .i64 ((i : Int) + (n : Int)) - 1)).tmod (n : Int) = ((bf n i : Nat) : Int) := by
  rw [show (i : Int) + (n : Int) = ((i + n : Nat) : Int) from rfl, wrN (by omega), show ((i + n : Nat) : Int) - 1 = ((i + n - 1 : Nat) : Int) by omega, wrN (by omega), tmodN]; rfl

theorem s_before (h8 : n ≤ 8) {i : Nat} (hi : i < n) : f88 k (Sc n X K o) (i : Int) = some ((((bf n i : Nat) : Int), ()), ()) := by
  unfold f88
  simp only [decide_eq_false (show ¬ ((n : Int) = 0) by omega), cond_false, bf_wr h8 hi]

def thr (X o : List Int) (n i q : Nat) : Bool := decide (lo X n q < g X i) && (decide (g X i < hi X n q) && bt o n q (bf n i) i)
def wv (X o : List Int) (n i q : Nat) : Bool := !decide (q = i) && ((g X q == g X i) && ((par q == par i) && ((bt o n (bf n q) (bf n i) i && ot o n q (bf n i) i) || (ot o n (bf n q) (bf n i) i && bt o n q (bf n i) i))))

theorem s_j7 (h8 : n ≤ 8) (hX : X.length = n) (ho : o.length = n * n) {i q : Nat} (hi : i < n) (hq : q < n) {ρ : Type} (nx) {Z : Option ρ}
    (h1 : nx.1 ((Sc n X K o, (i : Int), ((bf n i : Nat) : Int), (q : Int), ()), ()) = Z) (h2 : nx.2.1 ((Sc n X K o, (i : Int), ((bf n i : Nat) : Int), (q : Int), ()), ()) = Z) :
    f70_j7 (ρ := ρ) k (Sc n X K o) (i : Int) ((bf n i : Nat) : Int) (q : Int) nx = bif wv X o n i q then nx.2.2.1 ((true, ()), ()) else Z := by
  unfold f70_j7 wv
  rw [s_before h8 hq, Option.bind_some]
  rw [show ((q : Int) == (i : Int)) = decide (q = i) from by rw [Bool.eq_iff_iff, beq_iff_eq, decide_eq_true_eq]; omega]
  cases decide (q = i) with
  | true => exact h1
  | false =>
    simp only [cond_false, Bool.not_false, Bool.true_and, getI_g (show q < X.length by omega), getI_g (show i < X.length by omega), Option.bind_some]
    unfold bne
    cases g X q == g X i with
    | false => exact h1
    | true =>
      simp only [Bool.not_true, cond_false, Bool.true_and, f90, Option.bind_some, tmod_par]
      cases par q == par i with
      | false => exact h1
      | true =>
        have hb := bf_lt hi
        have hbq := bf_lt hq
        simp only [Bool.not_true, cond_false, Bool.true_and, s_between h8 ho hbq hb hi, s_outside h8 ho hq hb hi, s_outside h8 ho hbq hb hi, s_between h8 ho hq hb hi, Option.bind_some, h2]
        cases bt o n (bf n q) (bf n i) i <;> cases ot o n q (bf n i) i <;> cases ot o n (bf n q) (bf n i) i <;> cases bt o n q (bf n i) i <;> rfl

theorem s_crossed_loop {ρ : Type} (h8 : n ≤ 8) (hX : X.length = n) (ho : o.length = n * n) {i : Nat} (hi : i < n) (nx) : ∀ (m q : Nat), q + m = n → ∀ j, m < j →
    f70_l3 (ρ := ρ) k j (Sc n X K o) (i : Int) ((bf n i : Nat) : Int) (q : Int) nx = bif anyN (fun q => thr X o n i q || wv X o n i q) q m then nx.2.1 ((true, ()), ()) else nx.1 ((), ())
  | 0, q, h, j, hj => by
    obtain ⟨j, rfl⟩ : ∃ q, j = q + 1 := ⟨j - 1, by omega⟩
    obtain rfl : q = n := by omega
    simp only [f70_l3, dnlt (Int.le_refl (q : Int)), cond_false, anyN]
  | m + 1, q, h, j, hj => by
    obtain ⟨j, rfl⟩ : ∃ q, j = q + 1 := ⟨j - 1, by omega⟩
    have hq : q < n := by omega
    have ih := s_crossed_loop (ρ := ρ) h8 hX ho hi nx m (q + 1) (by omega) j (by omega)
    have hw := wr_succ (show q < 4611686018427387904 by omega)
    simp only [f70_l3, dlt (show (q : Int) < (n : Int) by omega), cond_true, lo_at hq, hi_at hq, getI_g (show i < X.length by omega), Option.bind_some, s_between h8 ho hq (bf_lt hi) hi, anyN]
    generalize hZ : (bif anyN (fun q => thr X o n i q || wv X o n i q) (q + 1) m then nx.2.1 ((true, ()), ()) else nx.1 ((), ())) = Z at ih
    have fin : ∀ f1 f2 f3, f1 ((Sc n X K o, (i : Int), ((bf n i : Nat) : Int), (q : Int), ()), ()) = Z → f2 ((Sc n X K o, (i : Int), ((bf n i : Nat) : Int), (q : Int), ()), ()) = Z → f3 ((true, ()), ()) = nx.2.1 ((true, ()), ()) →
        f70_j7 (ρ := ρ) k (Sc n X K o) (i : Int) ((bf n i : Nat) : Int) (q : Int) (f1, f2, f3, ()) = bif wv X o n i q || anyN (fun q => thr X o n i q || wv X o n i q) (q + 1) m then nx.2.1 ((true, ()), ()) else nx.1 ((), ()) := by
      intro f1 f2 f3 e1 e2 e3
      rw [s_j7 h8 hX ho hi hq (f1, f2, f3, ()) e1 e2, ← hZ]
      simp only [e3]
      cases wv X o n i q <;> rfl
    unfold thr
    by_cases c1 : lo X n q < g X i
    · rw [dlt c1]
      simp only [cond_true]
      by_cases c2 : g X i < R.hi X n q
      · rw [dlt c2]
        simp only [cond_true]
        cases bt o n q (bf n i) i with
        | true => rfl
        | false =>
          simp only [cond_false, Bool.and_false, Bool.false_or]
          exact fin _ _ _ (by simp only [hw]; exact ih) (by simp only [hw]; exact ih) rfl
      · rw [dnlt (by omega)]
        simp only [cond_false, Bool.and_false, Bool.false_and, Bool.false_or]
        exact fin _ _ _ (by simp only [hw]; exact ih) (by simp only [hw]; exact ih) rfl
    · rw [dnlt (by omega)]
      simp only [cond_false, Bool.false_and, Bool.false_or]
      exact fin _ _ _ (by simp only [hw]; exact ih) (by simp only [hw]; exact ih) rfl

def crs (X o : List Int) (n i : Nat) : Bool := anyN (fun q => thr X o n i q || wv X o n i q) 0 n

theorem s_crossed (h8 : n ≤ 8) (hX : X.length = n) (ho : o.length = n * n) (hk : 100 ≤ k) {i : Nat} (hi : i < n) : f70 k (Sc n X K o) (i : Int) = some ((crs X o n i, ()), ()) := by
  unfold f70
  rw [s_before h8 hi, Option.bind_some]
  refine (s_crossed_loop (K := K) h8 hX ho hi _ n 0 (by omega) k (by omega)).trans ?_
  show (bif crs X o n i then _ else _) = _
  cases crs X o n i <;> rfl

/-- A crease's kind is wrong. -/
def wrg (K o : List Int) (n i : Nat) : Bool := bif par i then ((g K i == 2) && up o n (bf n i) i) || ((g K i == 3) && up o n i (bf n i)) else ((g K i == 2) && up o n i (bf n i)) || ((g K i == 3) && up o n (bf n i) i)

theorem s_j6 (h8 : n ≤ 8) (hK : K.length = n) (ho : o.length = n * n) {i a b : Nat} (hi : i < n) (ha : a < n) (hb : b < n) {ρ : Type} (nx) :
    f71_j6 (ρ := ρ) k (Sc n X K o) (i : Int) (a : Int) (b : Int) nx = nx.1 ((((g K i == 2) && up o n b a) || ((g K i == 3) && up o n a b), ()), ()) := by
  unfold f71_j6
  simp only [getI_g (show i < K.length by omega), Option.bind_some, s_above h8 ho hb ha, s_above h8 ho ha hb]
  cases g K i == 2 <;> cases up o n b a <;> cases g K i == 3 <;> rfl

theorem s_wrong (h8 : n ≤ 8) (hK : K.length = n) (ho : o.length = n * n) {i : Nat} (hi : i < n) : f71 k (Sc n X K o) (i : Int) = some ((wrg K o n i, ()), ()) := by
  unfold f71 wrg
  rw [s_before h8 hi, Option.bind_some, tmod_odd]
  have hb := bf_lt hi
  cases par i with
  | true => simp only [Bool.not_true, cond_false, cond_true, s_j6 h8 hK ho hi hi hb]
  | false => simp only [Bool.not_false, cond_false, cond_true, s_j6 h8 hK ho hi hb hi]

/-- Three sectors in a circle. -/
def ov3 (X : List Int) (n i q j : Nat) : Bool := decide (max (lo X n i) (max (lo X n q) (lo X n j)) < min (hi X n i) (min (hi X n q) (hi X n j)))
def cir (X o : List Int) (n i q j : Nat) : Bool := ov3 X n i q j && ((up o n i q && (up o n q j && up o n j i)) || (up o n q i && (up o n i j && up o n j q)))

theorem s_circle_loop {ρ : Type} (h8 : n ≤ 8) (ho : o.length = n * n) {i q : Nat} (hi : i < n) (hq : q < n) (nx) : ∀ (m p : Nat), p + m = n → ∀ j, m < j →
    f72_l2 (ρ := ρ) k j (Sc n X K o) (i : Int) (q : Int) (p : Int) nx = bif anyN (cir X o n i q) p m then nx.2.1 ((true, ()), ()) else nx.1 ((), ())
  | 0, p, h, j, hj => by
    obtain ⟨j, rfl⟩ : ∃ q, j = q + 1 := ⟨j - 1, by omega⟩
    obtain rfl : p = n := by omega
    simp only [f72_l2, dnlt (Int.le_refl (p : Int)), cond_false, anyN]
  | m + 1, p, h, j, hj => by
    obtain ⟨j, rfl⟩ : ∃ q, j = q + 1 := ⟨j - 1, by omega⟩
    have hp : p < n := by omega
    have ih := s_circle_loop (ρ := ρ) h8 ho hi hq nx m (p + 1) (by omega) j (by omega)
    simp only [f72_l2, dlt (show (p : Int) < (n : Int) by omega), cond_true, lo_at hi, lo_at hq, lo_at hp, hi_at hi, hi_at hq, hi_at hp, Option.bind_some, spec_max, spec_min, s_above h8 ho hi hq, s_above h8 ho hq hp, s_above h8 ho hp hi, s_above h8 ho hq hi, s_above h8 ho hi hp, s_above h8 ho hp hq, anyN, wr_succ (show p < 4611686018427387904 by omega), ih, cir]
    rw [show decide (max (lo X n i) (max (lo X n q) (lo X n p)) < min (R.hi X n i) (min (R.hi X n q) (R.hi X n p))) = ov3 X n i q p from rfl]
    cases ov3 X n i q p <;> cases up o n i q <;> cases up o n q p <;> cases up o n p i <;> cases up o n q i <;> cases up o n i p <;> cases up o n p q <;> rfl

def circ (X o : List Int) (n i q : Nat) : Bool := anyN (cir X o n i q) 0 n

theorem s_circle (h8 : n ≤ 8) (ho : o.length = n * n) (hk : 100 ≤ k) {i q : Nat} (hi : i < n) (hq : q < n) : f72 k (Sc n X K o) (i : Int) (q : Int) = some ((circ X o n i q, ()), ()) := by
  unfold f72
  refine (s_circle_loop h8 ho hi hq _ n 0 (by omega) k (by omega)).trans ?_
  show (bif circ X o n i q then _ else _) = _
  cases circ X o n i q <;> rfl

def cpart (X o : List Int) (n i q : Nat) : Bool := (!decide (i = q) && ov X n i q) && circ X o n i q

theorem s_good2 {ρ : Type} (h8 : n ≤ 8) (ho : o.length = n * n) (hk : 100 ≤ k) {i : Nat} (hi : i < n) (nx) : ∀ (m q : Nat), q + m = i → ∀ j, m < j →
    f45_l7 (ρ := ρ) k j (Sc n X K o) (i : Int) (q : Int) nx = bif anyN (cpart X o n i) q m then nx.2.1 ((false, ()), ()) else nx.1 ((Sc n X K o, (i : Int), ()), ())
  | 0, q, h, j, hj => by
    obtain ⟨j, rfl⟩ : ∃ q, j = q + 1 := ⟨j - 1, by omega⟩
    obtain rfl : q = i := by omega
    simp only [f45_l7, dnlt (Int.le_refl (q : Int)), cond_false, anyN]
  | m + 1, q, h, j, hj => by
    obtain ⟨j, rfl⟩ : ∃ q, j = q + 1 := ⟨j - 1, by omega⟩
    have hq : q < n := by omega
    have ih := s_good2 (ρ := ρ) h8 ho hk hi nx m (q + 1) (by omega) j (by omega)
    simp only [f45_l7, dlt (show (q : Int) < (i : Int) by omega), cond_true, s_ov hi hq, Option.bind_some, s_circle h8 ho hk hi hq, anyN, wr_succ (show q < 4611686018427387904 by omega), ih, cpart]
    rw [show decide (i ≠ q) = !decide (i = q) from by rw [Bool.eq_iff_iff]; simp]
    cases (!decide (i = q) && ov X n i q) <;> cases circ X o n i q <;> rfl

def bad (X K o : List Int) (n i : Nat) : Bool := crs X o n i || (wrg K o n i || anyN (cpart X o n i) 0 i)

theorem s_good1 {ρ : Type} (h8 : n ≤ 8) (hX : X.length = n) (hK : K.length = n) (ho : o.length = n * n) (hk : 100 ≤ k) (nx) : ∀ (m i : Nat), i + m = n → ∀ j, m < j →
    f45_l2 (ρ := ρ) k j (Sc n X K o) (i : Int) nx = bif anyN (bad X K o n) i m then nx.2.1 ((false, ()), ()) else nx.1 ((), ())
  | 0, i, h, j, hj => by
    obtain ⟨j, rfl⟩ : ∃ q, j = q + 1 := ⟨j - 1, by omega⟩
    obtain rfl : i = n := by omega
    simp only [f45_l2, dnlt (Int.le_refl (i : Int)), cond_false, anyN]
  | m + 1, i, h, j, hj => by
    obtain ⟨j, rfl⟩ : ∃ q, j = q + 1 := ⟨j - 1, by omega⟩
    have hi : i < n := by omega
    have ih := s_good1 (ρ := ρ) h8 hX hK ho hk nx m (i + 1) (by omega) j (by omega)
    simp only [f45_l2, dlt (show (i : Int) < (n : Int) by omega), cond_true, s_crossed h8 hX ho hk hi, s_wrong h8 hK ho hi, Option.bind_some, anyN, bad]
    cases crs X o n i with
    | true => rfl
    | false =>
      cases wrg K o n i with
      | true => rfl
      | false =>
        simp only [cond_false, Bool.false_or]
        rw [show (0 : Int) = ((0 : Nat) : Int) from rfl, s_good2 h8 ho hk hi _ i 0 (by omega) k (by omega)]
        cases anyN (cpart X o n i) 0 i with
        | true => rfl
        | false => simp only [cond_false, Bool.false_or, wr_succ (show i < 4611686018427387904 by omega)]; exact ih

theorem s_good (h8 : n ≤ 8) (hX : X.length = n) (hK : K.length = n) (ho : o.length = n * n) (hk : 100 ≤ k) : f45 k (Sc n X K o) = some ((!anyN (bad X K o n) 0 n, ()), ()) := by
  unfold f45
  refine (s_good1 h8 hX hK ho hk _ n 0 (by omega) k (by omega)).trans ?_
  cases anyN (bad X K o n) 0 n <;> rfl
end
end Go.Proofs.Ytlajiknepcjhgaa.R
