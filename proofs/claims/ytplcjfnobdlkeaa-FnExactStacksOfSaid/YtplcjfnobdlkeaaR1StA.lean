/- Folded maps: the squares one after the other, in plain words. -/
import Derived.Test.YtplcjfnobdlkeaaR1St0
namespace Go.Proofs.Ytplcjfnobdlkeaa.R
open Go.Proofs.Ytplcjfnobdlkeaa.R1

/-- The open squares of one side behind a square. -/
def opn1 (m : Option Int) (s : List Int) (a : Int) (o : List Int) : Option (List Int) := match m with
  | none => some o
  | some y => if y ∈ s then (if o.getLast? = some y then some o.dropLast else none) else some (o ++ [a])

structure Mt where
  m1 : Int → Option Int
  m2 : Int → Option Int
  m3 : Int → Option Int
  m4 : Int → Option Int

structure O4 where
  o1 : List Int
  o2 : List Int
  o3 : List Int
  o4 : List Int

def O4.l (o : O4) : List (List Int) := [o.o1, o.o2, o.o3, o.o4]

def opn4 (M : Mt) (s : List Int) (a : Int) (o : O4) : Option O4 :=
  (opn1 (M.m1 a) s a o.o1).bind fun p1 => (opn1 (M.m2 a) s a o.o2).bind fun p2 => (opn1 (M.m3 a) s a o.o3).bind fun p3 => (opn1 (M.m4 a) s a o.o4).bind fun p4 => some ⟨p1, p2, p3, p4⟩

/-- Lists from a place on. -/
def fm {α : Type} (f : Nat → List α) : Nat → Nat → List α
  | _, 0 => []
  | i, c + 1 => f i ++ fm f (i + 1) c

/-- The stacks that begin with s. -/
def stk (M : Mt) (n : Nat) : Nat → List Int → O4 → List (List Int)
  | 0, s, _ => [s]
  | d + 1, s, o => fm (fun a => if (a : Int) ∈ s then [] else match opn4 M s a o with | none => [] | some o' => stk M n d (s ++ [(a : Int)]) o') 0 n

def Sym (m : Int → Option Int) : Prop := ∀ x y, m x = some y → m y = some x ∧ 0 ≤ y
def Inv1 (m : Int → Option Int) (s o : List Int) : Prop := (∀ x ∈ s, ∀ y, m x = some y → y ∉ s → x ∈ o) ∧ o.length ≤ s.length

theorem mem_drop {x y : Int} {o : List Int} (h : x ∈ o) (hl : o.getLast? = some y) (hne : x ≠ y) : x ∈ o.dropLast := by
  rcases List.eq_nil_or_concat o with rfl | ⟨p, z, rfl⟩
  · cases h
  · simp at hl h ⊢
    subst hl
    rcases h with h | h
    · exact h
    · exact absurd h hne

theorem inv_step {m : Int → Option Int} (hm : Sym m) {s o o' : List Int} {a : Int} (h : Inv1 m s o) (ha : a ∉ s) (e : opn1 (m a) s a o = some o') : Inv1 m (s ++ [a]) o' := by
  unfold opn1 at e
  split at e
  · rename_i e0
    injection e with e; subst e
    refine ⟨fun x hx y hy hn => ?_, by simp; have := h.2; omega⟩
    simp only [List.mem_append, List.mem_singleton, not_or] at hx hn
    rcases hx with hx | rfl
    · exact h.1 x hx y hy hn.1
    · rw [hy] at e0; cases e0
  · rename_i z e0
    split at e
    · rename_i hz
      split at e
      · rename_i hl
        injection e with e; subst e
        refine ⟨fun x hx y hy hn => ?_, by simp; have := h.2; omega⟩
        simp only [List.mem_append, List.mem_singleton, not_or] at hx hn
        rcases hx with hx | rfl
        · refine mem_drop (h.1 x hx y hy hn.1) hl fun hxz => ?_
          subst hxz
          have := (hm _ _ e0).1
          rw [hy] at this; injection this with this
          exact hn.2 this
        · rw [hy] at e0; injection e0 with e0; subst e0; exact absurd hz hn.1
      · cases e
    · rename_i hz
      injection e with e; subst e
      refine ⟨fun x hx y hy hn => ?_, by simp; exact h.2⟩
      simp only [List.mem_append, List.mem_singleton, not_or] at hx hn ⊢
      rcases hx with hx | rfl
      · exact .inl (h.1 x hx y hy hn.1)
      · exact .inr rfl

theorem open_ne {m : Int → Option Int} (hm : Sym m) {s o : List Int} {a y : Int} (h : Inv1 m s o) (ha : a ∉ s) (e : m a = some y) (hy : y ∈ s) : o ≠ [] := by
  intro h0
  have := h.1 y hy a (hm _ _ e).1 ha
  rw [h0] at this; cases this

structure Syms (M : Mt) : Prop where
  h1 : Sym M.m1
  h2 : Sym M.m2
  h3 : Sym M.m3
  h4 : Sym M.m4

structure Inv (M : Mt) (s : List Int) (o : O4) : Prop where
  h1 : Inv1 M.m1 s o.o1
  h2 : Inv1 M.m2 s o.o2
  h3 : Inv1 M.m3 s o.o3
  h4 : Inv1 M.m4 s o.o4

theorem opn4_some {M : Mt} {s : List Int} {a : Int} {o o' : O4} (e : opn4 M s a o = some o') : opn1 (M.m1 a) s a o.o1 = some o'.o1 ∧ opn1 (M.m2 a) s a o.o2 = some o'.o2 ∧ opn1 (M.m3 a) s a o.o3 = some o'.o3 ∧ opn1 (M.m4 a) s a o.o4 = some o'.o4 := by
  unfold opn4 at e
  obtain ⟨p1, e1, e⟩ := Option.bind_eq_some_iff.1 e
  obtain ⟨p2, e2, e⟩ := Option.bind_eq_some_iff.1 e
  obtain ⟨p3, e3, e⟩ := Option.bind_eq_some_iff.1 e
  obtain ⟨p4, e4, e⟩ := Option.bind_eq_some_iff.1 e
  injection e with e; subst e
  exact ⟨e1, e2, e3, e4⟩

theorem Inv.step {M : Mt} (S : Syms M) {s : List Int} {a : Int} {o o' : O4} (h : Inv M s o) (ha : a ∉ s) (e : opn4 M s a o = some o') : Inv M (s ++ [a]) o' := by
  obtain ⟨e1, e2, e3, e4⟩ := opn4_some e
  exact ⟨inv_step S.h1 h.h1 ha e1, inv_step S.h2 h.h2 ha e2, inv_step S.h3 h.h3 ha e3, inv_step S.h4 h.h4 ha e4⟩

theorem Inv.zero (M : Mt) : Inv M [] ⟨[], [], [], []⟩ := ⟨⟨fun x hx => (by cases hx), Nat.le_refl _⟩, ⟨fun x hx => (by cases hx), Nat.le_refl _⟩, ⟨fun x hx => (by cases hx), Nat.le_refl _⟩, ⟨fun x hx => (by cases hx), Nat.le_refl _⟩⟩

theorem drop_nil {α : Type} {l : List α} {i : Nat} (h : l.length ≤ i) : l.drop i = [] := List.drop_eq_nil_iff.2 h

/-! ### Small functions -/
theorem spec_has {k : Nat} (s : List Int) (y : Int) (hk : s.length < k) (hs : s.length ≤ 1000) : f35 k s y = some ((decide (y ∈ s), ()), ()) := by
  have loop : ∀ (rest : List Int) (i : Nat), s.drop i = rest → ∀ j, rest.length < j → f35_l2 (ρ := (Bool × Unit) × Unit) k j s y (i : Int) (fun x7 : (Unit × Unit) => some ((false, ()), ()), fun x8 : ((Bool × Unit) × Unit) => some ((x8.1.1, ()), ()), ()) = some ((decide (y ∈ rest), ()), ()) := by
    intro rest
    induction rest with
    | nil =>
      intro i h j hj
      obtain ⟨j, rfl⟩ : ∃ q, j = q + 1 := ⟨j - 1, by simp at hj; omega⟩
      simp only [f35_l2, out_nil h, cond_false]; simp
    | cons x rest ih =>
      intro i h j hj
      obtain ⟨j, rfl⟩ : ∃ q, j = q + 1 := ⟨j - 1, by simp at hj; omega⟩
      have hlt := lt_cons h
      simp only [f35_l2, in_cons h, cond_true, getI_cons h, Option.bind_some, wr_succ (show i < 4611686018427387904 by omega)]
      by_cases hxy : x = y
      · subst hxy; simp
      · rw [show (x == y) = false by simpa using hxy, cond_false, ih (i + 1) (next_cons h) j (by simpa using hj)]
        simp [Ne.symm hxy]
  unfold f35
  exact loop s 0 rfl k hk

theorem impl_has {k : Nat} (s : List Int) (y : Int) (hk : s.length < k) (hs : s.length ≤ 1000) : f30 k s y = some ((decide (y ∈ s), ()), ()) := by
  have loop : ∀ (rest : List Int) (i : Nat), s.drop i = rest → ∀ j, rest.length < j → ∃ z : Int, decide (z ≥ 0) = decide (y ∈ rest) ∧ f37_l2 (ρ := (Int × Unit) × Unit) k j s y (s.length : Int) (i : Int) (fun x8 : (Unit × Unit) => some (((-1), ()), ()), fun x9 : ((Int × Unit) × Unit) => some ((x9.1.1, ()), ()), ()) = some ((z, ()), ()) := by
    intro rest
    induction rest with
    | nil =>
      intro i h j hj
      obtain ⟨j, rfl⟩ : ∃ q, j = q + 1 := ⟨j - 1, by simp at hj; omega⟩
      exact ⟨-1, by simp, by simp only [f37_l2, out_nil h, cond_false]⟩
    | cons x rest ih =>
      intro i h j hj
      obtain ⟨j, rfl⟩ : ∃ q, j = q + 1 := ⟨j - 1, by simp at hj; omega⟩
      have hlt := lt_cons h
      simp only [f37_l2, in_cons h, cond_true, getI_cons h, Option.bind_some, wr_succ (show i < 4611686018427387904 by omega)]
      by_cases hxy : y = x
      · subst hxy; exact ⟨(i : Int), by simp, by simp⟩
      · obtain ⟨z, h1, h2⟩ := ih (i + 1) (next_cons h) j (by simpa using hj)
        refine ⟨z, by rw [h1]; simp [hxy], ?_⟩
        rw [show (y == x) = false by simpa using hxy, cond_false, h2]
  unfold f30 f37
  obtain ⟨z, h1, h2⟩ := loop s 0 rfl k hk
  rw [show ((0 : Nat) : Int) = 0 from rfl] at h2
  rw [h2, Option.bind_some, h1]

theorem spec_own (k : Nat) (l : List Int) (hl : l.length ≤ 1000) : f34 k l = some (((), ()), (l, ())) := by
  unfold f34
  rw [decide_eq_true (show (([] : List Int).length + l.length) * 8 ≤ roomy by simp only [roomy, List.length_nil]; omega)]; rfl

theorem impl_clone (k : Nat) (l : List Int) (hl : l.length ≤ 1000) : f32 k l = some (((), ()), (l, ())) := by
  unfold f32
  rw [decide_eq_true (show (([] : List Int).length + l.length) * 8 ≤ roomy by simp only [roomy, List.length_nil]; omega)]; rfl

theorem last_get (o : List Int) (hne : o ≠ []) (hl : o.length ≤ 1000) : ∃ z, o.getLast? = some z ∧ wr .i64 ((o.length : Int) - 1) = ((o.length - 1 : Nat) : Int) ∧ o[o.length - 1]? = some z ∧ o.length - 1 < o.length := by
  have h0 : 0 < o.length := List.length_pos_iff.2 hne
  have hlt : o.length - 1 < o.length := by omega
  refine ⟨o[o.length - 1], ?_, ?_, List.getElem?_eq_getElem hlt, hlt⟩
  · rw [List.getLast?_eq_getElem?, List.getElem?_eq_getElem hlt]
  · rw [wr_id (by omega) (by omega)]; omega
end Go.Proofs.Ytplcjfnobdlkeaa.R
