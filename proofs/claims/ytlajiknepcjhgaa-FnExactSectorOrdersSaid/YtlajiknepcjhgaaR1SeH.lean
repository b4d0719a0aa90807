/- The searches find the same. -/
import Derived.Test.YtlajiknepcjhgaaR1SeF
namespace Go.Proofs.Ytlajiknepcjhgaa.R
open Go.Proofs.Ytlajiknepcjhgaa.R1

section
variable {n : Nat} {X K : List Int}

abbrev SRes (n : Nat) (X K o : List Int) (out : List (List Int)) : (Unit × Unit) × ((Int × Unit × Unit × Unit × (List Int) × Unit × Unit) × (List Int) × (List Int) × (List Int) × (List Int) × (List (List Int)) × Unit) :=
  (((), ()), (((n : Int), (), (), (), K, (), ()), X, fromN (lo X n) 0 n, fromN (hi X n) 0 n, o, out, ()))

abbrev IRes (n : Nat) (X K v : List Int) (out : List (List Int)) : Unit × ((Unit × Unit) × (Unit × Unit) × ((((((Unit × Int) × Unit) × Unit) × (List Int)) × Unit) × Unit) × (Int × Unit × Unit × Unit × Unit) × (List Int) × (List (Int × Int)) × (List Int) × (List (List Int)) × Unit) :=
  ((), (((), ()), ((), ()), (((((((), (n : Int)), ()), ()), K), ()), ()), ((n : Int), (), (), (), ()), X, fromN (sp X n) 0 n, v, out, ()))

def Good (X K o : List Int) (n : Nat) : Bool := !anyN (bad X K o n) 0 n

theorem s_iter (h8 : n ≤ 8) (hX : X.length = n) (hK : K.length = n) {o : List Int} (ho : o.length = n * n) {i q a : Nat} (hi' : i < n) (hq : q < n) (hne : i * n + q ≠ q * n + i) (ha : a ≤ 1000) {x y z : Int} (hx : x = 1 ∨ x = -1) {k : Nat} (hk : 100 ≤ k) {out out1 : List (List Int)} (hout : out.length ≤ 400)
    {ρ : Type} (self) (j : Nat) (nx)
    (h1 : Good X K (st2 o (i * n + q) (q * n + i) x (-x)) n = true → self (((a + 1 : Nat)) : Int) (n : Int) K out X (fromN (lo X n) 0 n) (fromN (hi X n) 0 n) (st2 o (i * n + q) (q * n + i) x (-x)) = some (SRes n X K (st2 o (i * n + q) (q * n + i) x (-x)) out1))
    (h2 : Good X K (st2 o (i * n + q) (q * n + i) x (-x)) n = false → out1 = out) :
    f25_l8 (ρ := ρ) self k (j + 1) (a : Int) (i : Int) (q : Int) x (n : Int) K X (fromN (lo X n) 0 n) (fromN (hi X n) 0 n) (st2 o (i * n + q) (q * n + i) y z) out nx =
      f25_l8 (ρ := ρ) self k j (a : Int) (i : Int) (q : Int) (x + 2) (n : Int) K X (fromN (lo X n) 0 n) (fromN (hi X n) 0 n) (st2 o (i * n + q) (q * n + i) x (-x)) out1 nx := by
  have l0 : (st2 o (i * n + q) (q * n + i) y z).length = n * n := by rw [st2_length, ho]
  have b1 := bnd (show i * n + q < (st2 o (i * n + q) (q * n + i) y z).length by rw [l0]; exact idx_lt hi' hq)
  have b2 := bnd (show q * n + i < ((st2 o (i * n + q) (q * n + i) y z).set (i * n + q) x).length by rw [List.length_set, l0]; exact idx_lt hq hi')
  have g1 := at_g (l := st2 o (i * n + q) (q * n + i) y z) (i := i * n + q) (by rw [l0]; exact idx_lt hi' hq)
  have g2 := at_g (l := (st2 o (i * n + q) (q * n + i) y z).set (i * n + q) x) (i := q * n + i) (by rw [List.length_set, l0]; exact idx_lt hq hi')
  have hs : ((st2 o (i * n + q) (q * n + i) y z).set (i * n + q) x).set (q * n + i) (-x) = st2 o (i * n + q) (q * n + i) x (-x) := st2_st2 hne
  have hw : wr .i64 (0 - x) = -x := by rw [wr_id (by omega) (by omega)]; omega
  have hw2 : wr .i64 (x + 2) = x + 2 := wr_id (by omega) (by omega)
  have hg := s_good (k := k) (o := st2 o (i * n + q) (q * n + i) x (-x)) h8 hX hK (by rw [st2_length, ho]) hk
  rw [f25_l8]
  rw [show decide (x ≤ 1) = true from decide_eq_true (by omega), show decide ((out.length : Int) ≤ 400) = true from decide_eq_true (by omega)]
  simp only [cond_true, idx_wr h8 hi' hq, idx_wr h8 hq hi', b1, Int.toNat_natCast, g1, Option.bind_some, b2, g2, hw, hs, hg, wr_succ (show a < 4611686018427387904 by omega), hw2]
  cases hG : Good X K (st2 o (i * n + q) (q * n + i) x (-x)) n with
  | true =>
    have e := h1 hG
    unfold Good at hG
    rw [hG]
    simp only [cond_true, e, Option.bind_some]
  | false =>
    have e := h2 hG
    unfold Good at hG
    rw [hG, e]
    simp only [cond_false]

theorem i_iter (h8 : n ≤ 8) (hX : X.length = n) (hK : K.length = n) {o : List Int} (ho : o.length = n * n) {i q a : Nat} (hi' : i < n) (hq : q < n) (hne : i * n + q ≠ q * n + i) (ha : a ≤ 1000) {x y z : Int} (hx : x = 1 ∨ x = -1) {k : Nat} (hk : 100 ≤ k) {out out1 : List (List Int)} (hout : out.length ≤ 400)
    (hR : Rel n X K (st2 o (i * n + q) (q * n + i) x (-x)) (clr (st2 o (i * n + q) (q * n + i) x (-x))))
    {ρ : Type} (self) (j : Nat) (nx)
    (h1 : Good X K (st2 o (i * n + q) (q * n + i) x (-x)) n = true → self (((a + 1 : Nat)) : Int) (n : Int) K (n : Int) K (n : Int) out X (fromN (sp X n) 0 n) (clr (st2 o (i * n + q) (q * n + i) x (-x))) = some (IRes n X K (clr (st2 o (i * n + q) (q * n + i) x (-x))) out1))
    (h2 : Good X K (st2 o (i * n + q) (q * n + i) x (-x)) n = false → out1 = out) :
    f53_l6 (ρ := ρ) self k (j + 1) (a : Int) (n : Int) K (i : Int) (q : Int) x (n : Int) K (n : Int) X (fromN (sp X n) 0 n) (clr (st2 o (i * n + q) (q * n + i) y z)) out nx =
      f53_l6 (ρ := ρ) self k j (a : Int) (n : Int) K (i : Int) (q : Int) (x + 2) (n : Int) K (n : Int) X (fromN (sp X n) 0 n) (clr (st2 o (i * n + q) (q * n + i) x (-x))) out1 nx := by
  have l0 : (clr (st2 o (i * n + q) (q * n + i) y z)).length = n * n := by rw [clr_length, st2_length, ho]
  have b1 := bnd (show i * n + q < (clr (st2 o (i * n + q) (q * n + i) y z)).length by rw [l0]; exact idx_lt hi' hq)
  have b2 := bnd (show q * n + i < ((clr (st2 o (i * n + q) (q * n + i) y z)).set (i * n + q) x).length by rw [List.length_set, l0]; exact idx_lt hq hi')
  have g1 := at_g (l := clr (st2 o (i * n + q) (q * n + i) y z)) (i := i * n + q) (by rw [l0]; exact idx_lt hi' hq)
  have g2 := at_g (l := (clr (st2 o (i * n + q) (q * n + i) y z)).set (i * n + q) x) (i := q * n + i) (by rw [List.length_set, l0]; exact idx_lt hq hi')
  have hs : ((clr (st2 o (i * n + q) (q * n + i) y z)).set (i * n + q) x).set (q * n + i) (-x) = clr (st2 o (i * n + q) (q * n + i) x (-x)) := by
    rw [clr_st2, clr_st2]
    have e := st2_st2 (o := clr o) hne (a := c2 y) (b := c2 z) (c := x) (d := -x)
    rw [show c2 x = x from if_neg (by omega), show c2 (-x) = -x from if_neg (by omega)]
    exact e
  have hw : wr .i64 (0 - x) = -x := by rw [wr_id (by omega) (by omega)]; omega
  have hw2 : wr .i64 (x + 2) = x + 2 := wr_id (by omega) (by omega)
  have hg := i_good (k := k) (X := X) (K := K) (v := clr (st2 o (i * n + q) (q * n + i) x (-x))) h8 hX hK (by rw [clr_length, st2_length, ho]) hR.t hk
  rw [← good_same hR] at hg
  rw [f53_l6]
  rw [show decide (x ≤ 1) = true from decide_eq_true (by omega), show decide ((out.length : Int) ≤ 400) = true from decide_eq_true (by omega)]
  simp only [cond_true, idx_wr h8 hi' hq, idx_wr h8 hq hi', b1, Int.toNat_natCast, g1, Option.bind_some, b2, g2, hw, hs, hg, wr_succ (show a < 4611686018427387904 by omega), hw2]
  cases hG : Good X K (st2 o (i * n + q) (q * n + i) x (-x)) n with
  | true =>
    have e := h1 hG
    unfold Good at hG
    rw [hG]
    simp only [cond_true, e, Option.bind_some]
  | false =>
    have e := h2 hG
    unfold Good at hG
    rw [hG, e]
    simp only [cond_false]

theorem s_stop {ρ : Type} (self) (k j : Nat) (a i q x : Int) (o : List Int) (out : List (List Int)) (nx) (h : x > 1 ∨ out.length > 400) :
    f25_l8 (ρ := ρ) self k (j + 1) a i q x (n : Int) K X (fromN (lo X n) 0 n) (fromN (hi X n) 0 n) o out nx = nx.1 (((), (), i, q, ()), (((n : Int), (), (), (), K, (), ()), X, fromN (lo X n) 0 n, fromN (hi X n) 0 n, o, out, ())) := by
  rw [f25_l8]
  by_cases c : x ≤ 1
  · rw [decide_eq_true c, show decide ((out.length : Int) ≤ 400) = false from decide_eq_false (by omega)]; rfl
  · rw [decide_eq_false c]; rfl

theorem i_stop {ρ : Type} (self) (k j : Nat) (a i q x : Int) (v : List Int) (out : List (List Int)) (nx) (h : x > 1 ∨ out.length > 400) :
    f53_l6 (ρ := ρ) self k (j + 1) a (n : Int) K i q x (n : Int) K (n : Int) X (fromN (sp X n) 0 n) v out nx = nx.1 (((n : Int), (), i, q, ()), (((), ()), ((), ()), (((((((), (n : Int)), ()), ()), K), ()), ()), ((n : Int), (), (), (), ()), X, fromN (sp X n) 0 n, v, out, ())) := by
  rw [f53_l6]
  by_cases c : x ≤ 1
  · rw [decide_eq_true c, show decide ((out.length : Int) ≤ 400) = false from decide_eq_false (by omega)]; rfl
  · rw [decide_eq_false c]; rfl

theorem clone_eq {k : Nat} {l : List Int} (hl : l.length ≤ 100000) : f44 k l = some (((), ()), (l, ())) ∧ f55 k l = some (((), ()), (l, ())) := by
  have e : decide ((([] : List Int).length + l.length) * 8 ≤ roomy) = true := decide_eq_true (by simp only [List.length_nil, roomy]; omega)
  constructor
  · unfold f44; rw [e]; rfl
  · unfold f55; rw [e]; rfl

/-- Both searches from a place on. -/
def Same (n : Nat) (X K o : List Int) (a m : Nat) (out : List (List Int)) : Prop :=
  ∃ out' : List (List Int), out'.length ≤ 401 ∧ (∀ x ∈ out', x.length = n * n) ∧ ∀ k, m + 200 ≤ k →
    f25 (k + 1) (a : Int) (n : Int) K out X (fromN (lo X n) 0 n) (fromN (hi X n) 0 n) o = some (SRes n X K o out') ∧
    f53 (k + 1) (a : Int) (n : Int) K (n : Int) K (n : Int) out X (fromN (sp X n) 0 n) (clr o) = some (IRes n X K (clr o) out')

theorem search_same (h8 : n ≤ 8) (hX : X.length = n) (hK : K.length = n) (hr : ∀ i, i < n → (lo X n (bf n i) == g X i) = par i) (hk : ∀ i, i < n → g K i = 2 ∨ g K i = 3 ∨ g K i = 4) : ∀ (M m a : Nat), m ≤ M → a + m = n * n → ∀ (o : List Int), Inv n X o a → ∀ (out : List (List Int)), out.length ≤ 400 → (∀ x ∈ out, x.length = n * n) → Same n X K o a m out := by
  intro M
  induction M with
  | zero =>
    intro m a hm ham o hI out hout hlen
    obtain rfl : m = 0 := by omega
    have hnn : n * n ≤ 64 := Nat.mul_le_mul h8 h8
    obtain rfl : a = n * n := by omega
    refine ⟨out ++ [o], by rw [List.length_append, List.length_singleton]; omega, fun x hx => ?_, fun k hk' => ?_⟩
    · rcases List.mem_append.1 hx with h | h
      · exact hlen x h
      · rw [List.mem_singleton.1 h]; exact hI.l
    · obtain ⟨a', m', e1, e2, _, _, e5, e6⟩ := skip_run (K := K) h8 hX out 0 (n * n) (by omega) hI
      obtain rfl : a' = n * n := by omega
      have room : decide ((out.length + [o].length) * 24 ≤ roomy) = true := decide_eq_true (by simp only [List.length_singleton, roomy]; omega)
      have cl := clone_eq (k := k) (l := o) (by rw [hI.l]; omega)
      rw [hI.done] at e6 ⊢
      constructor
      · rw [f25]
        refine (e5 _ k k _ (by omega)).trans ?_
        simp only []
        rw [show (n : Int) * (n : Int) = ((n * n : Nat) : Int) from rfl, wrN (by omega), show decide (((n * n : Nat) : Int) ≥ ((n * n : Nat) : Int)) = true from decide_eq_true (Int.le_refl _)]
        simp only [cond_true, cl.1, Option.bind_some, room]
      · rw [f53]
        refine (e6 _ k k _ (by omega) (by omega)).trans ?_
        simp only []
        rw [show (n : Int) * (n : Int) = ((n * n : Nat) : Int) from rfl, wrN (by omega), show (((n * n : Nat) : Int) == ((n * n : Nat) : Int)) = true from beq_self_eq_true _]
        simp only [cond_true, cl.2, Option.bind_some, room]
  | succ M ih =>
    intro m a hm ham o hI out hout hlen
    have hnn : n * n ≤ 64 := Nat.mul_le_mul h8 h8
    obtain ⟨a', m', e1, e2, e3, e4, e5, e6⟩ := skip_run (K := K) h8 hX out m a ham hI
    rcases e4 with rfl | ⟨hlt, hov⟩
    · obtain rfl : a' = n * n := by omega
      refine ⟨out ++ [o], by rw [List.length_append, List.length_singleton]; omega, fun x hx => ?_, fun k hk' => ?_⟩
      · rcases List.mem_append.1 hx with h | h
        · exact hlen x h
        · rw [List.mem_singleton.1 h]; exact e3.l
      · have room : decide ((out.length + [o].length) * 24 ≤ roomy) = true := decide_eq_true (by simp only [List.length_singleton, roomy]; omega)
        have cl := clone_eq (k := k) (l := o) (by rw [e3.l]; omega)
        rw [e3.done] at e6 ⊢
        constructor
        · rw [f25]
          refine (e5 _ k k _ (by omega)).trans ?_
          simp only []
          rw [show (n : Int) * (n : Int) = ((n * n : Nat) : Int) from rfl, wrN (by omega), show decide (((n * n : Nat) : Int) ≥ ((n * n : Nat) : Int)) = true from decide_eq_true (Int.le_refl _)]
          simp only [cond_true, cl.1, Option.bind_some, room]
        · rw [f53]
          refine (e6 _ k k _ (by omega) (by omega)).trans ?_
          simp only []
          rw [show (n : Int) * (n : Int) = ((n * n : Nat) : Int) from rfl, wrN (by omega), show (((n * n : Nat) : Int) == ((n * n : Nat) : Int)) = true from beq_self_eq_true _]
          simp only [cond_true, cl.2, Option.bind_some, room]
    · -- a pair is decided
      have ha' : a' < n * n := by
        rcases Nat.lt_or_ge a' (n * n) with h | h
        · exact h
        · obtain rfl : a' = n * n := by omega
          rcases Nat.eq_zero_or_pos n with hz | hz
          · subst hz; simp at hlt
          · rw [Nat.mul_mod_right] at hlt; exact absurd hlt (Nat.not_lt_zero _)
      obtain ⟨d1, d2, d3⟩ := idx_dec ha'
      generalize hi0 : a' / n = i at d1 d3 hlt hov
      generalize hq0 : a' % n = q at d2 d3 hlt hov
      obtain ⟨m1, rfl⟩ : ∃ m1, m' = m1 + 1 := ⟨m' - 1, by omega⟩
      have hne : i * n + q ≠ q * n + i := fun e => by have := (idx_inj d2 d1 e).1; omega
      have hf := e3.f i q hlt d2 hov (by omega)
      have hback : st2 o (i * n + q) (q * n + i) 2 2 = o := by
        refine g_ext st2_length fun p hp => ?_
        rw [g_st2 (by rw [e3.l]; exact idx_lt d1 d2) (by rw [e3.l]; exact idx_lt d2 d1) hne]
        split
        · rename_i e; subst e; exact hf.2.symm
        · split
          · rename_i e; subst e; exact hf.1.symm
          · rfl
      have step : ∀ x : Int, x = 1 ∨ x = -1 → ∀ out0 : List (List Int), out0.length ≤ 400 → (∀ y ∈ out0, y.length = n * n) → ∃ out1 : List (List Int), out1.length ≤ 401 ∧ (∀ y ∈ out1, y.length = n * n) ∧
          (Good X K (st2 o (i * n + q) (q * n + i) x (-x)) n = false → out1 = out0) ∧ ∀ k, m1 + 200 ≤ k → (Good X K (st2 o (i * n + q) (q * n + i) x (-x)) n = true →
            f25 (k + 1) ((a' + 1 : Nat) : Int) (n : Int) K out0 X (fromN (lo X n) 0 n) (fromN (hi X n) 0 n) (st2 o (i * n + q) (q * n + i) x (-x)) = some (SRes n X K (st2 o (i * n + q) (q * n + i) x (-x)) out1) ∧
            f53 (k + 1) ((a' + 1 : Nat) : Int) (n : Int) K (n : Int) K (n : Int) out0 X (fromN (sp X n) 0 n) (clr (st2 o (i * n + q) (q * n + i) x (-x))) = some (IRes n X K (clr (st2 o (i * n + q) (q * n + i) x (-x))) out1)) := by
        intro x hx out0 ho0 hl0
        cases hG : Good X K (st2 o (i * n + q) (q * n + i) x (-x)) n with
        | true =>
          obtain ⟨out1, f1, f2, f3⟩ := ih m1 (a' + 1) (by omega) (by omega) _ (e3.put hlt d2 hov d3 hx) out0 ho0 hl0
          exact ⟨out1, f1, f2, fun h => (by cases h), fun k hk' _ => f3 k hk'⟩
        | false => exact ⟨out0, by omega, hl0, fun _ => rfl, fun k hk' h => (by cases h)⟩
      have rel : ∀ x : Int, x = 1 ∨ x = -1 → Rel n X K (st2 o (i * n + q) (q * n + i) x (-x)) (clr (st2 o (i * n + q) (q * n + i) x (-x))) := fun x hx => (e3.put hlt d2 hov d3 hx).rel hr hk
      obtain ⟨outA, A1, A2, A3, A4⟩ := step (-1) (.inr rfl) out hout hlen
      -- the end of the loop
      obtain ⟨out', y, z, B1, B2, B3⟩ : ∃ (out' : List (List Int)) (y z : Int), out'.length ≤ 401 ∧ (∀ w ∈ out', w.length = n * n) ∧ ∀ k, m1 + 201 ≤ k →
          (∀ {ρ : Type} (nx), f25_l8 (ρ := ρ) (f25 k) k k (a' : Int) (i : Int) (q : Int) (-1) (n : Int) K X (fromN (lo X n) 0 n) (fromN (hi X n) 0 n) (st2 o (i * n + q) (q * n + i) 2 2) out nx = nx.1 (((), (), (i : Int), (q : Int), ()), (((n : Int), (), (), (), K, (), ()), X, fromN (lo X n) 0 n, fromN (hi X n) 0 n, st2 o (i * n + q) (q * n + i) y z, out', ()))) ∧
          (∀ {ρ : Type} (nx), f53_l6 (ρ := ρ) (f53 k) k k (a' : Int) (n : Int) K (i : Int) (q : Int) (-1) (n : Int) K (n : Int) X (fromN (sp X n) 0 n) (clr (st2 o (i * n + q) (q * n + i) 2 2)) out nx = nx.1 (((n : Int), (), (i : Int), (q : Int), ()), (((), ()), ((), ()), (((((((), (n : Int)), ()), ()), K), ()), ()), ((n : Int), (), (), (), ()), X, fromN (sp X n) 0 n, clr (st2 o (i * n + q) (q * n + i) y z), out', ()))) := by
        by_cases hA : outA.length ≤ 400
        · obtain ⟨outB, C1, C2, C3, C4⟩ := step 1 (.inl rfl) outA hA A2
          refine ⟨outB, 1, -1, C1, C2, fun k hk' => ⟨fun {ρ} nx => ?_, fun {ρ} nx => ?_⟩⟩
          · obtain ⟨k, rfl⟩ : ∃ k', k = k' + 3 := ⟨k - 3, by omega⟩
            rw [s_iter h8 hX hK e3.l d1 d2 hne (by omega) (.inr rfl) (by omega) hout _ _ _ (fun h => (A4 (k + 2) (by omega) h).1) A3]
            rw [show (-1 : Int) + 2 = 1 from rfl, s_iter h8 hX hK e3.l d1 d2 hne (by omega) (.inl rfl) (by omega) hA _ _ _ (fun h => (C4 (k + 2) (by omega) h).1) C3]
            exact s_stop _ _ _ _ _ _ _ _ _ _ (.inl (by decide))
          · obtain ⟨k, rfl⟩ : ∃ k', k = k' + 3 := ⟨k - 3, by omega⟩
            rw [i_iter h8 hX hK e3.l d1 d2 hne (by omega) (.inr rfl) (by omega) hout (rel _ (.inr rfl)) _ _ _ (fun h => (A4 (k + 2) (by omega) h).2) A3]
            rw [show (-1 : Int) + 2 = 1 from rfl, i_iter h8 hX hK e3.l d1 d2 hne (by omega) (.inl rfl) (by omega) hA (rel _ (.inl rfl)) _ _ _ (fun h => (C4 (k + 2) (by omega) h).2) C3]
            exact i_stop _ _ _ _ _ _ _ _ _ _ (.inl (by decide))
        · refine ⟨outA, -1, 1, A1, A2, fun k hk' => ⟨fun {ρ} nx => ?_, fun {ρ} nx => ?_⟩⟩
          · obtain ⟨k, rfl⟩ : ∃ k', k = k' + 3 := ⟨k - 3, by omega⟩
            rw [s_iter h8 hX hK e3.l d1 d2 hne (by omega) (.inr rfl) (by omega) hout _ _ _ (fun h => (A4 (k + 2) (by omega) h).1) A3]
            exact s_stop _ _ _ _ _ _ _ _ _ _ (.inr (by omega))
          · obtain ⟨k, rfl⟩ : ∃ k', k = k' + 3 := ⟨k - 3, by omega⟩
            rw [i_iter h8 hX hK e3.l d1 d2 hne (by omega) (.inr rfl) (by omega) hout (rel _ (.inr rfl)) _ _ _ (fun h => (A4 (k + 2) (by omega) h).2) A3]
            exact i_stop _ _ _ _ _ _ _ _ _ _ (.inr (by omega))
      refine ⟨out', B1, B2, fun k hk' => ?_⟩
      obtain ⟨D1, D2⟩ := B3 k (by omega)
      rw [hback] at D1 D2
      have l0 : (st2 o (i * n + q) (q * n + i) y z).length = n * n := by rw [st2_length, e3.l]
      have l1 : (clr (st2 o (i * n + q) (q * n + i) y z)).length = n * n := by rw [clr_length, l0]
      constructor
      · rw [f25]
        refine (e5 _ k k _ (by omega)).trans ?_
        simp only []
        rw [show (n : Int) * (n : Int) = ((n * n : Nat) : Int) from rfl, wrN (by omega), show decide ((a' : Int) ≥ ((n * n : Nat) : Int)) = false from decide_eq_false (by omega)]
        simp only [cond_false, decide_eq_false (show ¬ ((n : Int) = 0) by omega), tdivN, tmodN, hi0, hq0, wrN (show i ≤ 1000000 by omega)]
        refine (D1 _).trans ?_
        simp only [idx_wr h8 d1 d2, idx_wr h8 d2 d1, Int.toNat_natCast, bnd (show i * n + q < (st2 o (i * n + q) (q * n + i) y z).length by rw [l0]; exact idx_lt d1 d2), at_g (l := st2 o (i * n + q) (q * n + i) y z) (i := i * n + q) (by rw [l0]; exact idx_lt d1 d2), Option.bind_some, cond_true,
          bnd (show q * n + i < ((st2 o (i * n + q) (q * n + i) y z).set (i * n + q) 2).length by rw [List.length_set, l0]; exact idx_lt d2 d1), at_g (l := (st2 o (i * n + q) (q * n + i) y z).set (i * n + q) 2) (i := q * n + i) (by rw [List.length_set, l0]; exact idx_lt d2 d1)]
        rw [show ((st2 o (i * n + q) (q * n + i) y z).set (i * n + q) 2).set (q * n + i) 2 = o from (st2_st2 hne).trans hback]
      · rw [f53]
        refine (e6 _ k k _ (by omega) (by omega)).trans ?_
        simp only []
        rw [show (n : Int) * (n : Int) = ((n * n : Nat) : Int) from rfl, wrN (by omega), show ((a' : Int) == ((n * n : Nat) : Int)) = false from beq_eq_false_iff_ne.2 (by omega)]
        simp only [cond_false, decide_eq_false (show ¬ ((n : Int) = 0) by omega), tdivN, tmodN, hi0, hq0, wrN (show i ≤ 1000000 by omega)]
        refine (D2 _).trans ?_
        simp only [idx_wr h8 d1 d2, idx_wr h8 d2 d1, Int.toNat_natCast, bnd (show i * n + q < (clr (st2 o (i * n + q) (q * n + i) y z)).length by rw [l1]; exact idx_lt d1 d2), at_g (l := clr (st2 o (i * n + q) (q * n + i) y z)) (i := i * n + q) (by rw [l1]; exact idx_lt d1 d2), Option.bind_some, cond_true,
          bnd (show q * n + i < ((clr (st2 o (i * n + q) (q * n + i) y z)).set (i * n + q) 0).length by rw [List.length_set, l1]; exact idx_lt d2 d1), at_g (l := (clr (st2 o (i * n + q) (q * n + i) y z)).set (i * n + q) 0) (i := q * n + i) (by rw [List.length_set, l1]; exact idx_lt d2 d1)]
        rw [show ((clr (st2 o (i * n + q) (q * n + i) y z)).set (i * n + q) 0).set (q * n + i) 0 = clr o from by
          rw [clr_st2]
          refine (st2_st2 hne (c := 0) (d := 0)).trans ?_
          have e := congrArg clr hback
          rw [clr_st2] at e
          exact e]
end
end Go.Proofs.Ytlajiknepcjhgaa.R
