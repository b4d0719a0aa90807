/- The searches go the same way. -/
import Derived.Test.YtlajiknepcjhgaaR1SeE
namespace Go.Proofs.Ytlajiknepcjhgaa.R
open Go.Proofs.Ytlajiknepcjhgaa.R1

def c2 (y : Int) : Int := if y = 2 then 0 else y
def clr (o : List Int) : List Int := o.map c2

theorem g_clr (o : List Int) (p : Nat) : g (clr o) p = c2 (g o p) := by
  unfold g clr
  rw [List.getElem?_map]
  cases o[p]? with
  | none => rfl
  | some y => rfl

theorem clr_length (o : List Int) : (clr o).length = o.length := List.length_map _

def st2 (o : List Int) (p p' : Nat) (a b : Int) : List Int := (o.set p a).set p' b

theorem st2_st2 {o : List Int} {p p' : Nat} (h : p ≠ p') {a b c d : Int} : st2 (st2 o p p' a b) p p' c d = st2 o p p' c d := by
  unfold st2
  rw [List.set_comm b c (Ne.symm h), List.set_set, List.set_set]

theorem st2_length {o : List Int} {p p' : Nat} {a b : Int} : (st2 o p p' a b).length = o.length := by
  unfold st2; rw [List.length_set, List.length_set]

theorem clr_st2 {o : List Int} {p p' : Nat} {a b : Int} : clr (st2 o p p' a b) = st2 (clr o) p p' (c2 a) (c2 b) := by
  unfold clr st2; rw [List.map_set, List.map_set]

theorem g_st2 {o : List Int} {p p' : Nat} (hp : p < o.length) (hp' : p' < o.length) (h : p ≠ p') {a b : Int} (r : Nat) : g (st2 o p p' a b) r = if r = p' then b else if r = p then a else g o r := by
  unfold g st2
  rw [List.getElem?_set]
  by_cases e : p' = r
  · subst e
    rw [if_pos rfl, if_pos rfl, if_pos (by rw [List.length_set]; exact hp')]; rfl
  · rw [if_neg e, if_neg (fun q => e q.symm), List.getElem?_set]
    by_cases e2 : p = r
    · subst e2; rw [if_pos rfl, if_pos rfl, if_pos hp]; rfl
    · rw [if_neg e2, if_neg (fun q => e2 q.symm)]

theorem g_ext {a b : List Int} (h : a.length = b.length) (hg : ∀ p, p < a.length → g a p = g b p) : a = b := by
  apply List.ext_getElem?
  intro p
  by_cases hp : p < a.length
  · rw [at_g hp, at_g (show p < b.length by omega), hg p hp]
  · rw [List.getElem?_eq_none (by omega), List.getElem?_eq_none (by omega)]

theorem idx_inj {n i q i' q' : Nat} (hq : q < n) (hq' : q' < n) (h : i * n + q = i' * n + q') : i = i' ∧ q = q' := by
  have h1 : (i * n + q) / n = i := by rw [Nat.mul_comm, Nat.mul_add_div (by omega), Nat.div_eq_of_lt hq, Nat.add_zero]
  have h2 : (i' * n + q') / n = i' := by rw [Nat.mul_comm, Nat.mul_add_div (by omega), Nat.div_eq_of_lt hq', Nat.add_zero]
  have h3 : (i * n + q) % n = q := by rw [Nat.mul_comm, Nat.mul_add_mod, Nat.mod_eq_of_lt hq]
  have h4 : (i' * n + q') % n = q' := by rw [Nat.mul_comm, Nat.mul_add_mod, Nat.mod_eq_of_lt hq']
  exact ⟨by rw [← h1, h, h2], by rw [← h3, h, h4]⟩

theorem idx_dec {n p : Nat} (h : p < n * n) : p / n < n ∧ p % n < n ∧ (p / n) * n + p % n = p := by
  have hn : 0 < n := by
    rcases Nat.eq_zero_or_pos n with e | e
    · subst e; simp at h
    · exact e
  exact ⟨Nat.div_lt_of_lt_mul h, Nat.mod_lt _ hn, by rw [Nat.mul_comm]; exact Nat.div_add_mod p n⟩

theorem ov_sym {X : List Int} {n i q : Nat} : ov X n i q = ov X n q i := by
  unfold ov; rw [decide_eq_decide]; omega

/-- An order that is decided up to a place. -/
structure Inv (n : Nat) (X o : List Int) (at' : Nat) : Prop where
  l : o.length = n * n
  z : ∀ i q, i < n → q < n → (i = q ∨ ov X n i q = false) → g o (i * n + q) = 0
  d : ∀ i q, i < q → q < n → ov X n i q = true → i * n + q < at' → (g o (i * n + q) = 1 ∧ g o (q * n + i) = -1) ∨ (g o (i * n + q) = -1 ∧ g o (q * n + i) = 1)
  f : ∀ i q, i < q → q < n → ov X n i q = true → at' ≤ i * n + q → g o (i * n + q) = 2 ∧ g o (q * n + i) = 2

section
variable {n : Nat} {X K o : List Int}

theorem Inv.vals {at' : Nat} (h : Inv n X o at') {i q : Nat} (hi : i < n) (hq : q < n) : (g o (i * n + q) = 0 ∧ g o (q * n + i) = 0) ∨ (g o (i * n + q) = 2 ∧ g o (q * n + i) = 2) ∨ (g o (i * n + q) = 1 ∧ g o (q * n + i) = -1) ∨ (g o (i * n + q) = -1 ∧ g o (q * n + i) = 1) := by
  by_cases c : i = q ∨ ov X n i q = false
  · refine .inl ⟨h.z i q hi hq c, h.z q i hq hi ?_⟩
    rcases c with c | c
    · exact .inl c.symm
    · exact .inr (by rw [ov_sym]; exact c)
  · simp only [not_or, Bool.not_eq_false] at c
    rcases Nat.lt_or_gt_of_ne c.1 with hlt | hgt
    · by_cases ha : i * n + q < at'
      · rcases h.d i q hlt hq c.2 ha with e | e
        · exact .inr (.inr (.inl e))
        · exact .inr (.inr (.inr e))
      · exact .inr (.inl (h.f i q hlt hq c.2 (by omega)))
    · have c2' : ov X n q i = true := by rw [ov_sym]; exact c.2
      by_cases ha : q * n + i < at'
      · rcases h.d q i hgt hi c2' ha with e | e
        · exact .inr (.inr (.inr ⟨e.2, e.1⟩))
        · exact .inr (.inr (.inl ⟨e.2, e.1⟩))
      · have e := h.f q i hgt hi c2' (by omega)
        exact .inr (.inl ⟨e.2, e.1⟩)

theorem Inv.rel {at' : Nat} (h : Inv n X o at') (hr : ∀ i, i < n → (lo X n (bf n i) == g X i) = par i) (hk : ∀ i, i < n → g K i = 2 ∨ g K i = 3 ∨ g K i = 4) : Rel n X K o (clr o) := by
  refine ⟨fun i q hi hq => ?_, fun i q hi hq => ?_, fun p => ?_, hr, hk⟩
  · unfold up A
    rw [g_clr]
    rcases h.vals hi hq with ⟨e, _⟩ | ⟨e, _⟩ | ⟨e, _⟩ | ⟨e, _⟩ <;> rw [e] <;> decide
  · unfold A
    rw [g_clr, g_clr]
    rcases h.vals hi hq with ⟨e, e'⟩ | ⟨e, e'⟩ | ⟨e, e'⟩ | ⟨e, e'⟩ <;> rw [e, e'] <;> decide
  · rw [g_clr]
    by_cases hp : p < n * n
    · obtain ⟨h1, h2, h3⟩ := idx_dec hp
      rw [← h3]
      rcases h.vals h1 h2 with ⟨e, _⟩ | ⟨e, _⟩ | ⟨e, _⟩ | ⟨e, _⟩ <;> rw [e] <;> decide
    · have e : g o p = 0 := by unfold g; rw [List.getElem?_eq_none (by rw [h.l]; omega)]; rfl
      rw [e]; decide

theorem Inv.done (h : Inv n X o (n * n)) : clr o = o := by
  refine g_ext (clr_length o) fun p hp => ?_
  rw [clr_length, h.l] at hp
  obtain ⟨h1, h2, h3⟩ := idx_dec hp
  rw [g_clr, ← h3]
  by_cases c : p / n = p % n ∨ ov X n (p / n) (p % n) = false
  · rw [h.z _ _ h1 h2 c]; rfl
  · simp only [not_or, Bool.not_eq_false] at c
    have key : g o (p / n * n + p % n) = 1 ∨ g o (p / n * n + p % n) = -1 := by
      rcases Nat.lt_or_gt_of_ne c.1 with hlt | hgt
      · rcases h.d _ _ hlt h2 c.2 (idx_lt h1 h2) with e | e
        · exact .inl e.1
        · exact .inr e.1
      · rcases h.d _ _ hgt h1 (by rw [ov_sym]; exact c.2) (idx_lt h2 h1) with e | e
        · exact .inr e.2
        · exact .inl e.2
    rcases key with e | e <;> rw [e] <;> rfl

theorem Inv.skip {a : Nat} (h : Inv n X o a) (ha : a < n * n) (hc : a % n ≤ a / n ∨ ov X n (a / n) (a % n) = false) : Inv n X o (a + 1) := by
  obtain ⟨h1, h2, h3⟩ := idx_dec ha
  refine ⟨h.l, h.z, fun i q hi hq ho hl => ?_, fun i q hi hq ho hl => h.f i q hi hq ho (by omega)⟩
  by_cases e : i * n + q = a
  · exfalso
    obtain ⟨e1, e2⟩ := idx_inj hq h2 (e.trans h3.symm)
    rw [← e1, ← e2] at hc
    rcases hc with hc | hc
    · omega
    · rw [ho] at hc; cases hc
  · exact h.d i q hi hq ho (by omega)

theorem Inv.put {a : Nat} (h : Inv n X o a) {i q : Nat} (hi : i < q) (hq : q < n) (hov : ov X n i q = true) (ha : i * n + q = a) {x : Int} (hx : x = 1 ∨ x = -1) : Inv n X (st2 o (i * n + q) (q * n + i) x (-x)) (a + 1) := by
  have hp : i * n + q < o.length := by rw [h.l]; exact idx_lt (by omega) hq
  have hp' : q * n + i < o.length := by rw [h.l]; exact idx_lt hq (by omega)
  have hne : i * n + q ≠ q * n + i := fun e => by have := (idx_inj hq (show i < n by omega) e).1; omega
  have G := fun r => g_st2 (o := o) hp hp' hne (a := x) (b := -x) r
  have other : ∀ i' q', i' < n → q' < n → ¬ (i' = i ∧ q' = q) → ¬ (i' = q ∧ q' = i) → g (st2 o (i * n + q) (q * n + i) x (-x)) (i' * n + q') = g o (i' * n + q') := by
    intro i' q' hi' hq' n1 n2
    rw [G, if_neg fun e => n2 (idx_inj hq' (show i < n by omega) e), if_neg fun e => n1 (idx_inj hq' hq e)]
  refine ⟨by rw [st2_length]; exact h.l, fun i' q' hi' hq' hc => ?_, fun i' q' hi' hq' ho hl => ?_, fun i' q' hi' hq' ho hl => ?_⟩
  · rw [other i' q' hi' hq' (fun e => ?_) (fun e => ?_)]
    · exact h.z i' q' hi' hq' hc
    · obtain ⟨e1, e2⟩ := e
      subst e1; subst e2
      rcases hc with hc | hc
      · omega
      · rw [hov] at hc; cases hc
    · obtain ⟨e1, e2⟩ := e
      subst e1; subst e2
      rcases hc with hc | hc
      · omega
      · rw [ov_sym, hov] at hc; cases hc
  · by_cases e : i' = i ∧ q' = q
    · obtain ⟨e1, e2⟩ := e
      subst e1; subst e2
      rw [G, G, if_neg hne, if_pos rfl, if_pos rfl]
      omega
    · have e2 : ¬ (i' = q ∧ q' = i) := fun e2 => by omega
      rw [other i' q' (by omega) hq' e e2, other q' i' hq' (by omega) (fun e3 => e2 ⟨e3.2, e3.1⟩) (fun e3 => e ⟨e3.2, e3.1⟩)]
      refine h.d i' q' hi' hq' ho ?_
      have : i' * n + q' ≠ a := fun e3 => e (idx_inj hq' hq (e3.trans ha.symm))
      omega
  · have e : ¬ (i' = i ∧ q' = q) := fun e => by obtain ⟨e1, e2⟩ := e; subst e1; subst e2; omega
    have e2 : ¬ (i' = q ∧ q' = i) := fun e2 => by omega
    rw [other i' q' (by omega) hq' e e2, other q' i' hq' (by omega) (fun e3 => e2 ⟨e3.2, e3.1⟩) (fun e3 => e ⟨e3.2, e3.1⟩)]
    exact h.f i' q' hi' hq' ho (by omega)

/-- Places at which nothing is to be decided are left out on both sides. -/
theorem skip_run (h8 : n ≤ 8) (hX : X.length = n) (out : List (List Int)) : ∀ (m a : Nat), a + m = n * n → Inv n X o a →
    ∃ a' m', a' + m' = n * n ∧ m' ≤ m ∧ Inv n X o a' ∧ (m' = 0 ∨ (a' / n < a' % n ∧ ov X n (a' / n) (a' % n) = true)) ∧
      (∀ {ρ : Type} (self) (k j : Nat) (nx), m < j → f25_l1 (ρ := ρ) self k j (a : Int) (n : Int) K out X (fromN (lo X n) 0 n) (fromN (hi X n) 0 n) o nx = nx.1 (((), (), (a' : Int), ()), (((n : Int), (), (), (), K, (), ()), out, X, fromN (lo X n) 0 n, fromN (hi X n) 0 n, o, ()))) ∧
      (∀ {ρ : Type} (self) (k j : Nat) (nx), 100 ≤ k → m < j → f53_l0 (ρ := ρ) self k j (a : Int) (n : Int) K (n : Int) K (n : Int) out X (fromN (sp X n) 0 n) (clr o) nx = nx.1 (((a' : Int), (n : Int), (), (), K, (), ()), (((), ()), ((), ()), (((((((), (n : Int)), ()), ()), K), ()), ()), ((n : Int), (), (), (), ()), out, X, fromN (sp X n) 0 n, clr o, ())))
  | 0, a, h, hI => ⟨a, 0, h, Nat.le_refl _, hI, .inl rfl, fun {ρ} self k j nx hj => by
      obtain ⟨j, rfl⟩ : ∃ q, j = q + 1 := ⟨j - 1, by omega⟩
      have hnn : n * n ≤ 64 := Nat.mul_le_mul h8 h8
      obtain rfl : a = n * n := by omega
      simp only [f25_l1]
      rw [show (n : Int) * (n : Int) = ((n * n : Nat) : Int) from rfl, wrN (by omega), dnlt (Int.le_refl _)]; rfl, fun {ρ} self k j nx hk hj => by
      obtain ⟨j, rfl⟩ : ∃ q, j = q + 1 := ⟨j - 1, by omega⟩
      have hnn : n * n ≤ 64 := Nat.mul_le_mul h8 h8
      obtain rfl : a = n * n := by omega
      simp only [f53_l0]
      rw [show (n : Int) * (n : Int) = ((n * n : Nat) : Int) from rfl, wrN (by omega), dnlt (Int.le_refl _)]; rfl⟩
  | m + 1, a, h, hI => by
    have hnn : n * n ≤ 64 := Nat.mul_le_mul h8 h8
    have ha : a < n * n := by omega
    obtain ⟨h1, h2, h3⟩ := idx_dec ha
    have hn0 : decide ((n : Int) = 0) = false := decide_eq_false (by omega)
    have hlt : decide ((a : Int) < ((n * n : Nat) : Int)) = true := dlt (by omega)
    have hw := wr_succ (show a < 4611686018427387904 by omega)
    have hd : wr .i64 (((a / n : Nat)) : Int) = ((a / n : Nat) : Int) := wrN (by omega)
    by_cases c1 : a % n ≤ a / n
    · obtain ⟨a', m', e1, e2, e3, e4, e5, e6⟩ := skip_run h8 hX out m (a + 1) (by omega) (hI.skip ha (.inl c1))
      have hge : decide (((a / n : Nat) : Int) ≥ ((a % n : Nat) : Int)) = true := decide_eq_true (by omega)
      refine ⟨a', m', e1, by omega, e3, e4, fun {ρ} self k j nx hj => ?_, fun {ρ} self k j nx hk hj => ?_⟩
      · obtain ⟨j, rfl⟩ : ∃ q, j = q + 1 := ⟨j - 1, by omega⟩
        simp only [f25_l1]
        rw [show (n : Int) * (n : Int) = ((n * n : Nat) : Int) from rfl, wrN (by omega)]
        simp only [hlt, cond_true, hn0, cond_false, tdivN, tmodN, hd, hge, hw]
        exact e5 self k j nx (by omega)
      · obtain ⟨j, rfl⟩ : ∃ q, j = q + 1 := ⟨j - 1, by omega⟩
        simp only [f53_l0]
        rw [show (n : Int) * (n : Int) = ((n * n : Nat) : Int) from rfl, wrN (by omega)]
        simp only [hlt, cond_true, hn0, cond_false, tdivN, tmodN, hd, hge, hw]
        exact e6 self k j nx hk (by omega)
    · have hge : decide (((a / n : Nat) : Int) ≥ ((a % n : Nat) : Int)) = false := decide_eq_false (by omega)
      have hat := at_g (l := o) (i := a) (by rw [hI.l]; exact ha)
      have hb := bnd (show a < o.length by rw [hI.l]; exact ha)
      by_cases c2 : ov X n (a / n) (a % n) = true
      · have hz : (g o a == 0) = false := by
          have := (hI.f _ _ (by omega) h2 c2 (by omega)).1
          rw [h3] at this
          rw [this]; rfl
        refine ⟨a, m + 1, h, Nat.le_refl _, hI, .inr ⟨by omega, c2⟩, fun {ρ} self k j nx hj => ?_, fun {ρ} self k j nx hk hj => ?_⟩
        · obtain ⟨j, rfl⟩ : ∃ q, j = q + 1 := ⟨j - 1, by omega⟩
          simp only [f25_l1]
          rw [show (n : Int) * (n : Int) = ((n * n : Nat) : Int) from rfl, wrN (by omega)]
          simp only [hlt, cond_true, hn0, cond_false, tdivN, tmodN, hd, hge, hb, Int.toNat_natCast, hat, Option.bind_some, hz]
        · obtain ⟨j, rfl⟩ : ∃ q, j = q + 1 := ⟨j - 1, by omega⟩
          simp only [f53_l0]
          rw [show (n : Int) * (n : Int) = ((n * n : Nat) : Int) from rfl, wrN (by omega)]
          simp only [hlt, cond_true, hn0, cond_false, tdivN, tmodN, hd, hge, i_overlap2 (v := clr o) hk h1 h2, c2, Option.bind_some, Bool.not_true]
      · have c2' : ov X n (a / n) (a % n) = false := by cases q : ov X n (a / n) (a % n) with | false => rfl | true => exact absurd q c2
        have hz : (g o a == 0) = true := by
          have := hI.z _ _ h1 h2 (.inr c2')
          rw [h3] at this
          rw [this]; rfl
        obtain ⟨a', m', e1, e2, e3, e4, e5, e6⟩ := skip_run h8 hX out m (a + 1) (by omega) (hI.skip ha (.inr c2'))
        refine ⟨a', m', e1, by omega, e3, e4, fun {ρ} self k j nx hj => ?_, fun {ρ} self k j nx hk hj => ?_⟩
        · obtain ⟨j, rfl⟩ : ∃ q, j = q + 1 := ⟨j - 1, by omega⟩
          simp only [f25_l1]
          rw [show (n : Int) * (n : Int) = ((n * n : Nat) : Int) from rfl, wrN (by omega)]
          simp only [hlt, cond_true, hn0, cond_false, tdivN, tmodN, hd, hge, hb, Int.toNat_natCast, hat, Option.bind_some, hz, hw]
          exact e5 self k j nx (by omega)
        · obtain ⟨j, rfl⟩ : ∃ q, j = q + 1 := ⟨j - 1, by omega⟩
          simp only [f53_l0]
          rw [show (n : Int) * (n : Int) = ((n * n : Nat) : Int) from rfl, wrN (by omega)]
          simp only [hlt, cond_true, hn0, cond_false, tdivN, tmodN, hd, hge, i_overlap2 (v := clr o) hk h1 h2, c2', Option.bind_some, Bool.not_false, hw]
          exact e6 self k j nx hk (by omega)
end
end Go.Proofs.Ytlajiknepcjhgaa.R
