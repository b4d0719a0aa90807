/- Both sides ask the same of an order. -/
import Derived.Test.YtlajiknepcjhgaaR1SeD
namespace Go.Proofs.Ytlajiknepcjhgaa.R
open Go.Proofs.Ytlajiknepcjhgaa.R1

/-! ### Where a crease's sectors lie -/
theorem plc_cons (b : Bool) (a x : Int) (r : List Int) : plc b a (x :: r) = a :: plc (!b) (a + (bif b then x else -x)) r := by
  cases b with
  | true => rfl
  | false => simp only [plc, Bool.not_false, cond_false, Int.sub_eq_add_neg]

theorem g_zero (x : Int) (r : List Int) : g (x :: r) 0 = x := rfl
theorem g_succ (x : Int) (r : List Int) (i : Nat) : g (x :: r) (i + 1) = g r i := by unfold g; rw [List.getElem?_cons_succ]

theorem plc_step : ∀ (l : List Int) (b : Bool) (a : Int) (i : Nat), i + 1 < l.length → g (plc b a l) (i + 1) = g (plc b a l) i + (bif (b == par i) then g l i else - g l i)
  | [], _, _, i, h => by simp at h
  | [x], _, _, i, h => by simp at h
  | x :: y :: r, b, a, 0, _ => by
    rw [plc_cons, plc_cons, g_succ, g_zero, g_zero, g_zero, show par 0 = true from rfl]
    cases b <;> rfl
  | x :: y :: r, b, a, i + 1, h => by
    rw [plc_cons, g_succ, g_succ, g_succ, plc_step (y :: r) (!b) _ i (by simpa using h), par_succ]
    cases b <;> cases par i <;> rfl

theorem plc_last : ∀ (l : List Int) (b : Bool) (a : Int) (m : Nat), l.length = m + 1 → g (plc b a l) m + (bif (b == par m) then g l m else - g l m) = a + al b l
  | [], _, _, m, h => by simp at h
  | [x], b, a, m, h => by
    obtain rfl : m = 0 := by simp at h; omega
    cases b <;> simp [plc, g_zero, al, show par 0 = true from rfl]
  | x :: y :: r, b, a, m, h => by
    obtain ⟨m, rfl⟩ : ∃ q, m = q + 1 := ⟨m - 1, by simp at h; omega⟩
    rw [plc_cons, g_succ, g_succ, par_succ]
    have ih := plc_last (y :: r) (!b) (a + (bif b then x else -x)) m (by simpa using h)
    have e : (b == !par m) = ((!b) == par m) := by cases b <;> cases par m <;> rfl
    rw [e, ih]
    cases b <;> simp only [al, cond_true, cond_false, Bool.not_true, Bool.not_false] <;> omega

theorem low_right {l : List Int} (h1 : 2 ≤ l.length) (he : par l.length = true) (hm : ∀ x ∈ l, 1 ≤ x ∧ x ≤ 16) (ha : al true l = 0) {i : Nat} (hi : i < l.length) :
    (lo (plc true 0 l) l.length (bf l.length i) == g (plc true 0 l) i) = par i := by
  have pos : ∀ q, q < l.length → 1 ≤ g l q := fun q hq => (hm _ (List.mem_of_getElem? (at_g hq))).1
  generalize hX : plc true 0 l = X
  have st := fun q h => plc_step l true 0 q h
  rw [hX] at st
  by_cases h0 : i = 0
  · subst h0
    have hb : bf l.length 0 = l.length - 1 := by unfold bf; rw [Nat.zero_add, Nat.mod_eq_of_lt (by omega)]
    have hn : nx1 l.length (l.length - 1) = 0 := by unfold nx1; rw [show l.length - 1 + 1 = l.length by omega, Nat.mod_self]
    have hl := plc_last l true 0 (l.length - 1) (by omega)
    rw [hX] at hl
    have hp : par (l.length - 1) = false := by
      have := par_succ (l.length - 1)
      rw [show l.length - 1 + 1 = l.length by omega, he] at this
      cases q : par (l.length - 1) with
      | false => rfl
      | true => rw [q] at this; cases this
    rw [hp, ha] at hl
    have hp0 := pos (l.length - 1) (by omega)
    have hz : g X 0 = 0 := by
      rw [← hX]
      cases l with
      | nil => simp at h1
      | cons x r => rw [plc_cons, g_zero]
    simp only [show (true == false) = false from rfl, cond_false] at hl
    rw [hb]
    unfold lo
    rw [hn, hz, show par 0 = true from rfl, beq_iff_eq]
    omega
  · have hb : bf l.length i = i - 1 := by unfold bf; rw [show i + l.length - 1 = i - 1 + l.length by omega, Nat.add_mod_right, Nat.mod_eq_of_lt (by omega)]
    have hn : nx1 l.length (i - 1) = i := by unfold nx1; rw [show i - 1 + 1 = i by omega, Nat.mod_eq_of_lt hi]
    have s := st (i - 1) (by omega)
    rw [show i - 1 + 1 = i by omega] at s
    have hp := par_succ (i - 1)
    rw [show i - 1 + 1 = i by omega] at hp
    have hp0 := pos (i - 1) (by omega)
    rw [hb]
    unfold lo
    rw [hn]
    cases q : par (i - 1) with
    | true =>
      rw [q] at s hp
      rw [hp]
      simp only [show (true == true) = true from rfl, cond_true] at s
      rw [show (!true) = false from rfl, beq_eq_false_iff_ne]
      omega
    | false =>
      rw [q] at s hp
      rw [hp]
      simp only [show (true == false) = false from rfl, cond_false] at s
      rw [show (!false) = true from rfl, beq_iff_eq]
      omega

/-! ### Conditions -/
structure Rel (n : Nat) (X K o v : List Int) : Prop where
  u : ∀ i q, i < n → q < n → up o n i q = decide (A v n i q = 1)
  a : ∀ i q, i < n → q < n → A v n q i = - A v n i q
  t : Tri v
  r : ∀ i, i < n → (lo X n (bf n i) == g X i) = par i
  k : ∀ i, i < n → g K i = 2 ∨ g K i = 3 ∨ g K i = 4

section
variable {n : Nat} {X K o v : List Int}

theorem bt_ib (h : Rel n X K o v) {s a b : Nat} (hs : s < n) (ha : a < n) (hb : b < n) : bt o n s a b = decide (ib v n s a b > 0) ∧ ot o n s a b = decide (ib v n s a b < 0) := by
  unfold bt ot ib
  rw [h.u a s ha hs, h.u s b hs hb, h.u b s hb hs, h.u s a hs ha, h.a s a hs ha, h.a s b hs hb]
  have h1 := A_tri h.t n s a
  have h2 := A_tri h.t n s b
  generalize A v n s a = x at h1 ⊢
  generalize A v n s b = y at h2 ⊢
  rcases h1 with rfl | rfl | rfl <;> rcases h2 with rfl | rfl | rfl <;> decide

def half (X v : List Int) (n x y : Nat) : Bool := (g X x == g X y) && ((par x == par y) && decide (ib v n (bf n y) (bf n x) x * ib v n y (bf n x) x < 0))

theorem prod_neg {p q : Int} (hp : p = -1 ∨ p = 0 ∨ p = 1) (hq : q = -1 ∨ q = 0 ∨ q = 1) : ((decide (p > 0) && decide (q < 0)) || (decide (p < 0) && decide (q > 0))) = decide (p * q < 0) := by
  rcases hp with rfl | rfl | rfl <;> rcases hq with rfl | rfl | rfl <;> decide

theorem thr_ith (h : Rel n X K o v) {i q : Nat} (hi : i < n) (hq : q < n) : thr X o n i q = ith X v n q i := by
  unfold thr ith
  rw [(bt_ib h hq (bf_lt hi) hi).1]

theorem wv_half (h : Rel n X K o v) {i q : Nat} (hi : i < n) (hq : q < n) : wv X o n i q = (!decide (q = i) && half X v n i q) := by
  unfold wv half
  rw [(bt_ib h (bf_lt hq) (bf_lt hi) hi).1, (bt_ib h hq (bf_lt hi) hi).2, (bt_ib h (bf_lt hq) (bf_lt hi) hi).2, (bt_ib h hq (bf_lt hi) hi).1, prod_neg (ib_tri h.t _ _ _) (ib_tri h.t _ _ _)]
  rw [show (g X q == g X i) = (g X i == g X q) from by rw [Bool.eq_iff_iff, beq_iff_eq, beq_iff_eq]; exact eq_comm, show (par q == par i) = (par i == par q) from by cases par q <;> cases par i <;> rfl]

theorem iwv_half (h : Rel n X K o v) {i q : Nat} (hi : i < n) (hq : q < n) : iwv X v n i q = (half X v n i q || half X v n q i) := by
  unfold iwv half
  rw [h.r i hi, h.r q hq]
  rw [show (g X q == g X i) = (g X i == g X q) from by rw [Bool.eq_iff_iff, beq_iff_eq, beq_iff_eq]; exact eq_comm, show (par q == par i) = (par i == par q) from by cases par q <;> cases par i <;> rfl]
  cases g X i == g X q <;> cases par i == par q <;> rfl

theorem wrg_kind (h : Rel n X K o v) {i : Nat} (hi : i < n) : wrg K o n i = ikind K v n i := by
  unfold wrg ikind kn kn3
  have hb := bf_lt hi
  rw [h.u _ _ hb hi, h.u _ _ hi hb, h.a _ _ hb hi]
  have h1 := A_tri h.t n (bf n i) i
  generalize A v n (bf n i) i = x at h1 ⊢
  cases par i <;> rcases h.k i hi with e | e | e <;> rw [e] <;> rcases h1 with rfl | rfl | rfl <;> decide

theorem ov3_sym {i q j : Nat} : ov3 X n i q j = ov3 X n q i j := by
  unfold ov3; rw [decide_eq_decide]; omega

theorem ov3_ov {i q j : Nat} (h : ov3 X n i q j = true) : ov X n i q = true := by
  unfold ov3 at h; unfold ov
  have h := of_decide_eq_true h
  exact decide_eq_true (by omega)

theorem icy_iff {i q m : Nat} : icy X v n i q m = true ↔ A v n i q ≠ 0 ∧ A v n q m = A v n i q ∧ A v n m i = A v n i q ∧ ov3 X n i q m = true := by
  unfold icy; simp

theorem cpart_iff (h : Rel n X K o v) {i q : Nat} (hi : i < n) (hq : q < n) : cpart X o n i q = true ↔ (i ≠ q ∧ ov X n i q = true) ∧ ∃ j, j < n ∧ ov3 X n i q j = true ∧ ((A v n i q = 1 ∧ A v n q j = 1 ∧ A v n j i = 1) ∨ (A v n q i = 1 ∧ A v n i j = 1 ∧ A v n j q = 1)) := by
  unfold cpart circ
  rw [Bool.and_eq_true, anyN_iff]
  simp only [Bool.and_eq_true, Bool.not_eq_true', decide_eq_false_iff_not, ne_eq, Nat.zero_add, Nat.zero_le, true_and]
  refine and_congr_right fun _ => exists_congr fun j => and_congr_right fun hj => ?_
  unfold cir
  rw [h.u i q hi hq, h.u q j hq hj, h.u j i hj hi, h.u q i hq hi, h.u i j hi hj, h.u j q hj hq]
  simp

theorem good_same (h : Rel n X K o v) : anyN (bad X K o n) 0 n = anyN (ibad X K v n) 0 n := by
  rw [Bool.eq_iff_iff, anyN_iff, anyN_iff]
  simp only [Nat.zero_add, Nat.zero_le, true_and]
  constructor
  · rintro ⟨i, hi, hb⟩
    unfold bad crs at hb
    rw [Bool.or_eq_true, Bool.or_eq_true, anyN_iff, anyN_iff] at hb
    simp only [Nat.zero_add, Nat.zero_le, true_and] at hb
    rcases hb with ⟨q, hq, hb⟩ | hb | ⟨q, hq, hb⟩
    · rw [Bool.or_eq_true, thr_ith h hi hq, wv_half h hi hq, Bool.and_eq_true] at hb
      rcases hb with hb | ⟨h1, hb⟩
      · refine ⟨q, hq, ?_⟩
        unfold ibad
        rw [Bool.or_eq_true, anyN_iff]
        refine .inr ⟨i, by omega, by omega, ?_⟩
        unfold ipair; rw [hb]; rfl
      · refine ⟨i, hi, ?_⟩
        unfold ibad
        rw [Bool.or_eq_true, anyN_iff]
        refine .inr ⟨q, by omega, by omega, ?_⟩
        have hne : decide (i = q) = false := decide_eq_false fun e => by subst e; simp at h1
        unfold ipair
        rw [iwv_half h hi hq, hb, hne]
        cases ith X v n i q <;> rfl
    · refine ⟨i, hi, ?_⟩
      unfold ibad; rw [← wrg_kind h hi, hb]; rfl
    · obtain ⟨_, j, hj, h3, hb⟩ := (cpart_iff h hi (by omega)).1 hb
      have fin : ∀ x y, x < n → y < n → icy X v n x y j = true → ∃ q, q < n ∧ ibad X K v n q = true := by
        intro x y hx hy hc
        refine ⟨x, hx, ?_⟩
        unfold ibad
        rw [Bool.or_eq_true, anyN_iff]
        refine .inr ⟨y, by omega, by omega, ?_⟩
        unfold ipair
        rw [Bool.or_eq_true, Bool.or_eq_true, anyN_iff]
        exact .inr (.inr ⟨j, by omega, by omega, hc⟩)
      rcases hb with ⟨b1, b2, b3⟩ | ⟨b1, b2, b3⟩
      · exact fin i q hi (by omega) (icy_iff.2 ⟨by omega, by omega, by omega, h3⟩)
      · exact fin q i (by omega) hi (icy_iff.2 ⟨by omega, by omega, by omega, by rw [ov3_sym]; exact h3⟩)
  · rintro ⟨i, hi, hb⟩
    unfold ibad at hb
    rw [Bool.or_eq_true, anyN_iff] at hb
    simp only [Nat.zero_add, Nat.zero_le, true_and] at hb
    have put : ∀ x, x < n → (crs X o n x = true ∨ wrg K o n x = true ∨ ∃ q, q < x ∧ cpart X o n x q = true) → ∃ q, q < n ∧ bad X K o n q = true := by
      intro x hx hc
      refine ⟨x, hx, ?_⟩
      unfold bad
      rw [Bool.or_eq_true, Bool.or_eq_true, anyN_iff]
      rcases hc with hc | hc | ⟨q, h1, h2⟩
      · exact .inl hc
      · exact .inr (.inl hc)
      · exact .inr (.inr ⟨q, by omega, by omega, h2⟩)
    have cr : ∀ x q, x < n → q < n → (thr X o n x q || wv X o n x q) = true → crs X o n x = true := fun x q hx hq hc => by
      unfold crs; rw [anyN_iff]; exact ⟨q, by omega, by omega, hc⟩
    rcases hb with hb | ⟨q, hq, hb⟩
    · exact put i hi (.inr (.inl (by rw [wrg_kind h hi]; exact hb)))
    · unfold ipair at hb
      rw [Bool.or_eq_true, Bool.or_eq_true, Bool.and_eq_true, anyN_iff] at hb
      rcases hb with hb | ⟨h1, hb⟩ | ⟨m, _, hm, hb⟩
      · exact put q hq (.inl (cr q i hq hi (by rw [thr_ith h hq hi, hb]; rfl)))
      · have hne : ¬ i = q := by simpa using h1
        rw [iwv_half h hi hq, Bool.or_eq_true] at hb
        rcases hb with hb | hb
        · exact put i hi (.inl (cr i q hi hq (by rw [wv_half h hi hq, hb, decide_eq_false (fun e => hne e.symm)]; simp)))
        · exact put q hq (.inl (cr q i hq hi (by rw [wv_half h hq hi, hb, decide_eq_false hne]; simp)))
      · rw [Nat.zero_add] at hm
        obtain ⟨c1, c2, c3, c4⟩ := icy_iff.1 hb
        have a1 := h.a i q hi hq
        have a2 := h.a q m hq hm
        have a3 := h.a m i hm hi
        have ht := A_tri h.t n i q
        have hne : i ≠ q := fun e => by subst e; omega
        rcases Nat.lt_or_gt_of_ne hne with hlt | hgt
        · refine put q hq (.inr (.inr ⟨i, hlt, (cpart_iff h hq hi).2 ⟨⟨fun e => hne e.symm, ov3_ov (by rw [ov3_sym]; exact c4)⟩, m, hm, by rw [ov3_sym]; exact c4, ?_⟩⟩))
          omega
        · refine put i hi (.inr (.inr ⟨q, hgt, (cpart_iff h hi hq).2 ⟨⟨hne, ov3_ov c4⟩, m, hm, c4, ?_⟩⟩))
          omega
end
end Go.Proofs.Ytlajiknepcjhgaa.R
