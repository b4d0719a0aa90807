/- What the program asks of an order. -/
import Derived.Test.YtlajiknepcjhgaaR1SeC
namespace Go.Proofs.Ytlajiknepcjhgaa.R
open Go.Proofs.Ytlajiknepcjhgaa.R1

/-- Numbers from -1 to 1. -/
def Tri (v : List Int) : Prop := ∀ i, g v i = -1 ∨ g v i = 0 ∨ g v i = 1

def A (v : List Int) (n i q : Nat) : Int := g v (i * n + q)

theorem A_tri {v : List Int} (h : Tri v) (n i q : Nat) : A v n i q = -1 ∨ A v n i q = 0 ∨ A v n i q = 1 := h _

section
variable {k n : Nat} {X K v : List Int}

theorem i_above (h8 : n ≤ 8) (hv : v.length = n * n) {i q : Nat} (hi : i < n) (hq : q < n) : f69 k (Ic n X v) (i : Int) (q : Int) = some ((A v n i q, ()), ()) := by
  unfold f69 A
  simp only [idx_wr h8 hi hq, getI_g (show i * n + q < v.length by rw [hv]; exact idx_lt hi hq), Option.bind_some]

theorem i_beside (h8 : n ≤ 8) {i : Nat} (hi : i < n) : f68 k (Ic n X v) (i : Int) = some ((((bf n i : Nat) : Int), (i : Int), ()), ()) := by
  unfold f68
  simp only [decide_eq_false (show ¬ ((n : Int) = 0) by omega), cond_false, bf_wr h8 hi]

def kn3 (y : Int) : Int := bif y == 1 then 2 else bif y == -1 then 3 else 0
def kn (v : List Int) (n i : Nat) : Int := kn3 (bif par i then - A v n (bf n i) i else A v n (bf n i) i)

theorem i_kind (h8 : n ≤ 8) (hv : v.length = n * n) (ht : Tri v) {i : Nat} (hi : i < n) : f38 k (Ic n X v) (i : Int) = some ((kn v n i, ()), ()) := by
  unfold f38 kn
  have ha := A_tri ht n (bf n i) i
  have hw : wr .i64 (0 - A v n (bf n i) i) = - A v n (bf n i) i := by rw [wr_id (by omega) (by omega)]; omega
  simp only [i_beside h8 hi, Option.bind_some, i_above h8 hv (bf_lt hi) hi, tmod_par, hw]
  have j5 : ∀ {ρ : Type} (y : Int) (nx), f38_j5 (ρ := ρ) k y nx = nx.1 ((kn3 y, ()), ()) := by
    intro ρ y nx
    unfold f38_j5 kn3
    cases y == 1 with
    | true => rfl
    | false => cases y == -1 <;> rfl
  cases par i <;> simp only [cond_true, cond_false, j5]

def ib (v : List Int) (n s a b : Nat) : Int := - (A v n s a) * A v n s b

theorem ib_wr {x y : Int} (hx : x = -1 ∨ x = 0 ∨ x = 1) (hy : y = -1 ∨ y = 0 ∨ y = 1) : wr .i64 (wr .i64 (0 - x) * y) = -x * y ∧ (-x * y = -1 ∨ -x * y = 0 ∨ -x * y = 1) := by
  rcases hx with rfl | rfl | rfl <;> rcases hy with rfl | rfl | rfl <;> decide

theorem ib_tri (ht : Tri v) (s a b : Nat) : ib v n s a b = -1 ∨ ib v n s a b = 0 ∨ ib v n s a b = 1 := (ib_wr (A_tri ht n s a) (A_tri ht n s b)).2

theorem i_between (h8 : n ≤ 8) (hv : v.length = n * n) (ht : Tri v) {s a b : Nat} (hs : s < n) (ha : a < n) (hb : b < n) : f93 k (Ic n X v) (s : Int) (a : Int) (b : Int) = some ((ib v n s a b, ()), ()) := by
  unfold f93 ib
  simp only [i_above h8 hv hs ha, i_above h8 hv hs hb, Option.bind_some, (ib_wr (A_tri ht n s a) (A_tri ht n s b)).1]

def ith (X v : List Int) (n s c : Nat) : Bool := decide (lo X n s < g X c) && (decide (g X c < hi X n s) && decide (ib v n s (bf n c) c > 0))

theorem two01 : (decide ((0 : Nat) ≤ 0) && decide ((0 : Int) < 2)) = true ∧ (decide ((0 : Nat) ≤ 1) && decide ((1 : Int) < 2)) = true := ⟨rfl, rfl⟩

theorem i_through (h8 : n ≤ 8) (hX : X.length = n) (hv : v.length = n * n) (ht : Tri v) {s c : Nat} (hs : s < n) (hc : c < n) : f74 k (Ic n X v) (s : Int) (c : Int) = some ((ith X v n s c, ()), ()) := by
  unfold f74 ith
  simp only [i_beside h8 hc, Option.bind_some, getI_g (show c < X.length by omega), sp_at hs, sp, two01, cond_true, i_between h8 hv ht hs (bf_lt hc) hc]
  cases decide (lo X n s < g X c) with
  | false => rfl
  | true => cases decide (g X c < hi X n s) <;> rfl

def iwv (X v : List Int) (n x y : Nat) : Bool := (g X x == g X y) && (((lo X n (bf n x) == g X x) == (lo X n (bf n y) == g X y)) && (decide (ib v n (bf n y) (bf n x) x * ib v n y (bf n x) x < 0) || decide (ib v n (bf n x) (bf n y) y * ib v n x (bf n y) y < 0)))

theorem mul_wr {x y : Int} (hx : x = -1 ∨ x = 0 ∨ x = 1) (hy : y = -1 ∨ y = 0 ∨ y = 1) : wr .i64 (x * y) = x * y := by
  rcases hx with rfl | rfl | rfl <;> rcases hy with rfl | rfl | rfl <;> decide

theorem i_woven (h8 : n ≤ 8) (hX : X.length = n) (hv : v.length = n * n) (ht : Tri v) {x y : Nat} (hx : x < n) (hy : y < n) : f75 k (Ic n X v) (x : Int) (y : Int) = some ((iwv X v n x y, ()), ()) := by
  unfold f75 iwv
  have bx := bf_lt hx
  have by' := bf_lt hy
  simp only [i_beside h8 hx, i_beside h8 hy, Option.bind_some, getI_g (show x < X.length by omega), getI_g (show y < X.length by omega), sp_at bx, sp_at by', sp, two01, cond_true,
    i_between h8 hv ht by' bx hx, i_between h8 hv ht hy bx hx, i_between h8 hv ht bx by' hy, i_between h8 hv ht hx by' hy, mul_wr (ib_tri ht _ _ _) (ib_tri ht _ _ _)]
  unfold bne
  cases g X x == g X y with
  | false => rfl
  | true =>
    simp only [Bool.not_true, cond_false, Bool.true_and]
    cases ((lo X n (bf n x) == g X x) == (lo X n (bf n y) == g X y)) with
    | false => rfl
    | true =>
      simp only [Bool.not_true, cond_false, Bool.true_and]
      cases decide (ib v n (bf n y) (bf n x) x * ib v n y (bf n x) x < 0) <;> rfl

theorem i_overlap3 (hk : 100 ≤ k) {a b c : Nat} (ha : a < n) (hb : b < n) (hc : c < n) : f54 k (Ic n X v) [(a : Int), (b : Int), (c : Int)] = some ((ov3 X n a b c, ()), ()) := by
  obtain ⟨k, rfl⟩ : ∃ q, k = q + 4 := ⟨k - 4, by omega⟩
  unfold f54
  rw [show getI [(a : Int), (b : Int), (c : Int)] 0 = some (a : Int) from rfl]
  simp only [Option.bind_some, sp_at ha, sp, two01, cond_true]
  rw [f54_l3]
  rw [show decide ((0 : Int) < (([(a : Int), (b : Int), (c : Int)].length : Nat) : Int)) = true from rfl, show getI [(a : Int), (b : Int), (c : Int)] 0 = some (a : Int) from rfl]
  simp only [Option.bind_some, sp_at ha, sp, two01, cond_true, max_eq, min_eq]
  rw [show wr .i64 (0 + 1) = 1 from rfl, f54_l3]
  rw [show decide ((1 : Int) < (([(a : Int), (b : Int), (c : Int)].length : Nat) : Int)) = true from rfl, show getI [(a : Int), (b : Int), (c : Int)] 1 = some (b : Int) from rfl]
  simp only [Option.bind_some, sp_at hb, sp, two01, cond_true, max_eq, min_eq]
  rw [show wr .i64 (1 + 1) = 2 from rfl, f54_l3]
  rw [show decide ((2 : Int) < (([(a : Int), (b : Int), (c : Int)].length : Nat) : Int)) = true from rfl, show getI [(a : Int), (b : Int), (c : Int)] 2 = some (c : Int) from rfl]
  simp only [Option.bind_some, sp_at hc, sp, two01, cond_true, max_eq, min_eq]
  rw [show wr .i64 (2 + 1) = 3 from rfl, f54_l3]
  rw [show decide ((3 : Int) < (([(a : Int), (b : Int), (c : Int)].length : Nat) : Int)) = false from rfl]
  simp only [cond_false]
  unfold ov3
  congr 3
  rw [decide_eq_decide]
  omega

theorem i_overlap2 (hk : 100 ≤ k) {a b : Nat} (ha : a < n) (hb : b < n) : f54 k (Ic n X v) [(a : Int), (b : Int)] = some ((ov X n a b, ()), ()) := by
  obtain ⟨k, rfl⟩ : ∃ q, k = q + 3 := ⟨k - 3, by omega⟩
  unfold f54
  rw [show getI [(a : Int), (b : Int)] 0 = some (a : Int) from rfl]
  simp only [Option.bind_some, sp_at ha, sp, two01, cond_true]
  rw [f54_l3]
  rw [show decide ((0 : Int) < (([(a : Int), (b : Int)].length : Nat) : Int)) = true from rfl, show getI [(a : Int), (b : Int)] 0 = some (a : Int) from rfl]
  simp only [Option.bind_some, sp_at ha, sp, two01, cond_true, max_eq, min_eq]
  rw [show wr .i64 (0 + 1) = 1 from rfl, f54_l3]
  rw [show decide ((1 : Int) < (([(a : Int), (b : Int)].length : Nat) : Int)) = true from rfl, show getI [(a : Int), (b : Int)] 1 = some (b : Int) from rfl]
  simp only [Option.bind_some, sp_at hb, sp, two01, cond_true, max_eq, min_eq]
  rw [show wr .i64 (1 + 1) = 2 from rfl, f54_l3]
  rw [show decide ((2 : Int) < (([(a : Int), (b : Int)].length : Nat) : Int)) = false from rfl]
  simp only [cond_false]
  unfold ov
  congr 3
  rw [decide_eq_decide]
  omega

def icy (X v : List Int) (n i q m : Nat) : Bool := !(A v n i q == 0) && ((A v n q m == A v n i q) && ((A v n m i == A v n i q) && ov3 X n i q m))

theorem i_cycle (h8 : n ≤ 8) (hv : v.length = n * n) (hk : 100 ≤ k) {i q m : Nat} (hi : i < n) (hq : q < n) (hm : m < n) : f76 k (Ic n X v) (i : Int) (q : Int) (m : Int) = some ((icy X v n i q m, ()), ()) := by
  unfold f76 icy
  simp only [i_above h8 hv hi hq, i_above h8 hv hq hm, i_above h8 hv hm hi, i_overlap3 hk hi hq hm, Option.bind_some]
  unfold bne
  cases A v n i q == 0 with
  | true => rfl
  | false =>
    cases A v n q m == A v n i q with
    | false => rfl
    | true => cases A v n m i == A v n i q <;> rfl

theorem i_g13 {ρ : Type} (h8 : n ≤ 8) (hv : v.length = n * n) (hk : 100 ≤ k) {i q : Nat} (hi : i < n) (hq : q < n) (z1 z2 z3 z4 : Int) (nx) : ∀ (c m : Nat), m + c = n → ∀ j, c < j →
    f56_l13 (ρ := ρ) k j (Ic n X v) K (i : Int) (q : Int) z1 z2 z3 z4 (n : Int) (m : Int) nx = bif anyN (icy X v n i q) m c then nx.2.1 ((false, ()), ()) else nx.1 ((Ic n X v, K, (i : Int), z1, z2, z3, z4, ()), ())
  | 0, m, h, j, hj => by
    obtain ⟨j, rfl⟩ : ∃ q, j = q + 1 := ⟨j - 1, by omega⟩
    obtain rfl : m = n := by omega
    simp only [f56_l13, dnlt (Int.le_refl (m : Int)), cond_false, anyN]
  | c + 1, m, h, j, hj => by
    obtain ⟨j, rfl⟩ : ∃ q, j = q + 1 := ⟨j - 1, by omega⟩
    have hm : m < n := by omega
    have ih := i_g13 (ρ := ρ) h8 hv hk hi hq z1 z2 z3 z4 nx c (m + 1) (by omega) j (by omega)
    simp only [f56_l13, dlt (show (m : Int) < (n : Int) by omega), cond_true, i_cycle h8 hv hk hi hq hm, Option.bind_some, anyN, wr_succ (show m < 4611686018427387904 by omega), ih]
    cases icy X v n i q m <;> rfl

theorem i_j12 {ρ : Type} (h8 : n ≤ 8) (hv : v.length = n * n) (hk : 100 ≤ k) {i q : Nat} (hi : i < n) (hq : q < n) (z1 z2 z3 z4 : Int) (nx) :
    f56_j12 (ρ := ρ) k (Ic n X v) K (i : Int) (q : Int) z1 z2 z3 z4 nx = bif anyN (icy X v n i q) 0 n then nx.2.1 ((false, ()), ()) else nx.1 ((Ic n X v, K, (i : Int), z1, z2, z3, z4, ()), ()) := by
  unfold f56_j12
  exact i_g13 h8 hv hk hi hq z1 z2 z3 z4 _ n 0 (by omega) k (by omega)

def ipair (X v : List Int) (n i q : Nat) : Bool := ith X v n i q || ((!decide (i = q) && iwv X v n i q) || anyN (icy X v n i q) 0 n)

theorem i_g8 {ρ : Type} (h8 : n ≤ 8) (hX : X.length = n) (hv : v.length = n * n) (ht : Tri v) (hk : 100 ≤ k) {i : Nat} (hi : i < n) (z1 z2 : Int) (nx) : ∀ (c q : Nat), q + c = n → ∀ j, c < j →
    f56_l8 (ρ := ρ) k j (Ic n X v) K (i : Int) z1 z2 (n : Int) (q : Int) nx = bif anyN (ipair X v n i) q c then nx.2.1 ((false, ()), ()) else nx.1 ((Ic n X v, K, z1, z2, ()), ())
  | 0, q, h, j, hj => by
    obtain ⟨j, rfl⟩ : ∃ q, j = q + 1 := ⟨j - 1, by omega⟩
    obtain rfl : q = n := by omega
    simp only [f56_l8, dnlt (Int.le_refl (q : Int)), cond_false, anyN]
  | c + 1, q, h, j, hj => by
    obtain ⟨j, rfl⟩ : ∃ q, j = q + 1 := ⟨j - 1, by omega⟩
    have hq : q < n := by omega
    have ih := i_g8 (ρ := ρ) h8 hX hv ht hk hi z1 z2 nx c (q + 1) (by omega) j (by omega)
    simp only [f56_l8, dlt (show (q : Int) < (n : Int) by omega), cond_true, i_through h8 hX hv ht hi hq, i_woven h8 hX hv ht hi hq, Option.bind_some, anyN, ipair, i_j12 h8 hv hk hi hq, wr_succ (show q < 4611686018427387904 by omega), ih]
    rw [show ((i : Int) != (q : Int)) = !decide (i = q) from by unfold bne; congr 1; rw [Bool.eq_iff_iff, beq_iff_eq, decide_eq_true_eq]; omega]
    cases ith X v n i q with
    | true => rfl
    | false =>
      cases decide (i = q) with
      | true => cases anyN (icy X v n i q) 0 n <;> rfl
      | false => cases iwv X v n i q <;> cases anyN (icy X v n i q) 0 n <;> rfl

def ikind (K v : List Int) (n i : Nat) : Bool := !(g K i == 4) && (!(kn v n i == 0) && !(kn v n i == g K i))
def ibad (X K v : List Int) (n i : Nat) : Bool := ikind K v n i || anyN (ipair X v n i) 0 n

theorem i_j7 {ρ : Type} (h8 : n ≤ 8) (hX : X.length = n) (hv : v.length = n * n) (ht : Tri v) (hk : 100 ≤ k) {i : Nat} (hi : i < n) (z1 z2 : Int) (nx) :
    f56_j7 (ρ := ρ) k (Ic n X v) K (i : Int) z1 z2 nx = bif anyN (ipair X v n i) 0 n then nx.2.1 ((false, ()), ()) else nx.1 ((Ic n X v, K, z1, z2, ()), ()) := by
  unfold f56_j7
  exact i_g8 h8 hX hv ht hk hi z1 z2 _ n 0 (by omega) k (by omega)

theorem i_g2 {ρ : Type} (h8 : n ≤ 8) (hX : X.length = n) (hK : K.length = n) (hv : v.length = n * n) (ht : Tri v) (hk : 100 ≤ k) (nx) : ∀ (c i : Nat), i + c = n → ∀ j, c < j →
    f56_l2 (ρ := ρ) k j (Ic n X v) K (n : Int) (i : Int) nx = bif anyN (ibad X K v n) i c then nx.2.1 ((false, ()), ()) else nx.1 ((), ())
  | 0, i, h, j, hj => by
    obtain ⟨j, rfl⟩ : ∃ q, j = q + 1 := ⟨j - 1, by omega⟩
    obtain rfl : i = n := by omega
    simp only [f56_l2, dnlt (Int.le_refl (i : Int)), cond_false, anyN]
  | c + 1, i, h, j, hj => by
    obtain ⟨j, rfl⟩ : ∃ q, j = q + 1 := ⟨j - 1, by omega⟩
    have hi : i < n := by omega
    have ih := i_g2 (ρ := ρ) h8 hX hK hv ht hk nx c (i + 1) (by omega) j (by omega)
    simp only [f56_l2, dlt (show (i : Int) < (n : Int) by omega), cond_true, i_kind h8 hv ht hi, getI_g (show i < K.length by omega), Option.bind_some, anyN, ibad, ikind, i_j7 h8 hX hv ht hk hi, wr_succ (show i < 4611686018427387904 by omega), ih]
    unfold bne
    cases g K i == 4 with
    | true => cases anyN (ipair X v n i) 0 n <;> rfl
    | false =>
      cases kn v n i == 0 with
      | true => cases anyN (ipair X v n i) 0 n <;> rfl
      | false => cases kn v n i == g K i <;> cases anyN (ipair X v n i) 0 n <;> rfl

theorem i_good (h8 : n ≤ 8) (hX : X.length = n) (hK : K.length = n) (hv : v.length = n * n) (ht : Tri v) (hk : 100 ≤ k) : f56 k (Ic n X v) K = some ((!anyN (ibad X K v n) 0 n, ()), ()) := by
  unfold f56
  refine (i_g2 h8 hX hK hv ht hk _ n 0 (by omega) k (by omega)).trans ?_
  cases anyN (ibad X K v n) 0 n <;> rfl
end
end Go.Proofs.Ytlajiknepcjhgaa.R
