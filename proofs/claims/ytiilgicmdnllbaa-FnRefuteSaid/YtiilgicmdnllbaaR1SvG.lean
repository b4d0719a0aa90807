/- Sizes, copies, comparisons, marks. -/
import Derived.Test.YtiilgicmdnllbaaR1SvE
namespace Go.Proofs.Ytiilgicmdnllbaa.R
open Go.Proofs.Ytiilgicmdnllbaa.R1

theorem wr_full {x : Int} (h1 : -9223372036854775808 ≤ x) (h2 : x ≤ 9223372036854775807) : wr .i64 x = x := by
  unfold wr; rw [IntKind.wrap_i64]; omega

def cost : List Ru → Nat
  | [] => 0
  | r :: rs => r.2.1.length + r.2.2.length + cost rs

theorem cost_mem {r : Ru} : ∀ {rs : List Ru}, r ∈ rs → r.2.1.length + r.2.2.length ≤ cost rs
  | q :: rs, h => by
    simp only [cost]
    rcases List.mem_cons.1 h with rfl | h
    · omega
    · have := cost_mem h; omega

def big (l : Nat) : Prop := l ≤ 9223372036854775807

theorem sz_int {k : Nat} {l : List Int} (hl : big l.length) {left : Int} (h0 : 0 ≤ left) (h1 : left ≤ 1048576) : f80 k l left = some ((bif decide (left - l.length < 0) then -1 else left - l.length, ()), ()) := by
  unfold f80 big at *
  rw [wr_full (by omega) (by omega)]
  cases decide (left - (l.length : Int) < 0) <;> rfl

theorem sz_rule {k : Nat} {r : Ru} (h1 : big r.2.1.length) (h2 : big r.2.2.length) {left : Int} (h0 : 0 ≤ left) (h3 : left ≤ 1048576) : ∃ l' : Int, f54 k r.1 r.2.1 r.2.2 left = some ((l', ()), ()) ∧ (l' = -1 ∨ 0 ≤ l' ∧ l' = left - (r.2.1.length + r.2.2.length : Nat)) := by
  unfold f54
  rw [sz_int h1 h0 h3]
  simp only [Option.bind_some]
  by_cases q : left - (r.2.1.length : Int) < 0
  · exact ⟨-1, by rw [show decide (left - (r.2.1.length : Int) < 0) = true from dlt q]; rfl, .inl rfl⟩
  · rw [show decide (left - (r.2.1.length : Int) < 0) = false from dnlt (by omega)]
    simp only [cond_false]
    rw [show decide (left - (r.2.1.length : Int) < 0) = false from dnlt (by omega)]
    simp only [cond_false]
    rw [sz_int h2 (by omega) (by omega)]
    simp only [Option.bind_some]
    by_cases q2 : left - (r.2.1.length : Int) - (r.2.2.length : Int) < 0
    · exact ⟨-1, by rw [show decide (left - (r.2.1.length : Int) - (r.2.2.length : Int) < 0) = true from dlt q2]; rfl, .inl rfl⟩
    · refine ⟨left - (r.2.1.length : Int) - (r.2.2.length : Int), ?_, .inr ⟨by omega, by omega⟩⟩
      rw [show decide (left - (r.2.1.length : Int) - (r.2.2.length : Int) < 0) = false from dnlt (by omega)]
      simp only [cond_false]
      rw [show decide (left - (r.2.1.length : Int) - (r.2.2.length : Int) < 0) = false from dnlt (by omega)]
      rfl

theorem sz_loop {ρ : Type} (k : Nat) (l : List Ru) (hb : ∀ r ∈ l, big r.2.1.length ∧ big r.2.2.length) (hk : l.length < 4611686018427387904) (nx) : ∀ (rest : List Ru) (i : Nat), l.drop i = rest → ∀ j, rest.length < j → ∀ left : Int, 0 ≤ left → left ≤ 1048576 →
    f15_l5 (ρ := ρ) k j l left (i : Int) nx = nx.2.1 ((-1, ()), ()) ∨ ∃ l' : Int, 0 ≤ l' ∧ l' + cost rest = left ∧ f15_l5 (ρ := ρ) k j l left (i : Int) nx = nx.1 ((l', ()), ())
  | [], i, h, j, hj, left, h0, h1 => by
    obtain ⟨j, rfl⟩ : ∃ q, j = q + 1 := ⟨j - 1, by simp at hj; omega⟩
    exact .inr ⟨left, h0, by simp [cost], by simp only [f15_l5, out_nil h, cond_false]⟩
  | r :: rest, i, h, j, hj, left, h0, h1 => by
    obtain ⟨j, rfl⟩ : ∃ q, j = q + 1 := ⟨j - 1, by simp at hj; omega⟩
    have hlt := lt_cons h
    obtain ⟨b1, b2⟩ := hb r (List.mem_of_getElem? (at_cons h))
    obtain ⟨l', e1, e2⟩ := sz_rule (k := k) b1 b2 h0 h1
    simp only [f15_l5, in_cons h, cond_true, getI_cons h, Option.bind_some, e1, wr_succ (show i < 4611686018427387904 by omega)]
    rcases e2 with rfl | ⟨e2, e3⟩
    · exact .inl rfl
    · rw [show decide (l' < 0) = false from dnlt e2]
      simp only [cond_false]
      rcases sz_loop k l hb hk nx rest (i + 1) (next_cons h) j (by simpa using hj) l' e2 (by omega) with q | ⟨l2, q1, q2, q3⟩
      · exact .inl q
      · exact .inr ⟨l2, q1, by simp only [cost]; omega, q3⟩

theorem sizes {k : Nat} (hk : 2097152 ≤ k) (l : List Ru) (hl : big l.length) (hb : ∀ r ∈ l, big r.2.1.length ∧ big r.2.2.length) :
    f15 k l 1048576 = some ((-1, ()), ()) ∨ ∃ l' : Int, 0 ≤ l' ∧ l.length + cost l ≤ 1048576 ∧ f15 k l 1048576 = some ((l', ()), ()) := by
  unfold f15 big at *
  rw [wr_full (by omega) (by omega)]
  by_cases q : (1048576 : Int) - l.length < 0
  · rw [show decide ((1048576 : Int) - l.length < 0) = true from dlt q]; exact .inl rfl
  · rw [show decide ((1048576 : Int) - l.length < 0) = false from dnlt (by omega)]
    simp only [cond_false]
    rcases sz_loop k l hb (by omega) (fun x12 : ((Int × Unit) × Unit) => some ((x12.1.1, ()), ()), fun x13 : ((Int × Unit) × Unit) => some ((x13.1.1, ()), ()), ()) l 0 rfl k (by omega) ((1048576 : Int) - l.length) (by omega) (by omega) with e | ⟨l', e1, e2, e3⟩
    · exact .inl e
    · exact .inr ⟨l', e1, by omega, e3⟩

/-! ### Copies -/
theorem take_next {α : Type} {l r acc : List α} {i : Nat} {x : α} (h : l.drop i = x :: r) (ha : acc.length = l.length) (ht : acc.take i = l.take i) : (acc.set i x).take (i + 1) = l.take (i + 1) := by
  have hlt := lt_cons h
  rw [List.take_add_one, List.take_add_one, List.getElem?_set_self (by omega), List.take_set_of_le (Nat.le_refl i), ht, at_cons h]

theorem copy_loop {ρ : Type} (k : Nat) (l : List Int) (hk : l.length < 4611686018427387904) (nx) : ∀ (rest : List Int) (i : Nat), l.drop i = rest → ∀ j, rest.length < j → ∀ acc : List Int, acc.length = l.length → acc.take i = l.take i →
    f82_l3 (ρ := ρ) k j l (i : Int) acc nx = nx.1 (((), ()), (l, ()))
  | [], i, h, j, hj, acc, ha, ht => by
    obtain ⟨j, rfl⟩ : ∃ q, j = q + 1 := ⟨j - 1, by simp at hj; omega⟩
    have := ge_nil h
    rw [List.take_of_length_le (by omega), List.take_of_length_le this] at ht
    subst ht
    simp only [f82_l3, out_nil h, cond_false]
  | x :: rest, i, h, j, hj, acc, ha, ht => by
    obtain ⟨j, rfl⟩ : ∃ q, j = q + 1 := ⟨j - 1, by simp at hj; omega⟩
    have hlt := lt_cons h
    simp only [f82_l3, in_cons h, cond_true, getI_cons h, Option.bind_some, wr_succ (show i < 4611686018427387904 by omega), bnd (show i < acc.length by omega), Int.toNat_natCast, List.getElem?_eq_getElem (show i < acc.length by omega)]
    exact copy_loop k l hk nx rest (i + 1) (next_cons h) j (by simpa using hj) _ (by rw [List.length_set]; exact ha) (take_next h ha ht)

theorem copy {k : Nat} {l : List Int} (hl : l.length ≤ 1048576) (hk : 2097152 ≤ k) : f82 k l = some (((), ()), (l, ())) := by
  unfold f82
  rw [show (decide ((l.length : Int) = (l.length : Int)) && decide (0 ≤ (l.length : Int)) && decide ((l.length : Int) * 8 ≤ roomy)) = true from by
    rw [decide_eq_true rfl, dle (by omega), dle (by simp only [roomy]; omega)]; rfl]
  simp only [cond_true]
  exact copy_loop k l (by omega) _ l 0 rfl k (by omega) _ (by simp) rfl

theorem copys_loop {ρ : Type} (k : Nat) (hk2 : 2097152 ≤ k) (l : List Ru) (hk : l.length < 4611686018427387904) (hl : ∀ r ∈ l, r.2.1.length ≤ 1048576 ∧ r.2.2.length ≤ 1048576) (nx) : ∀ (rest : List Ru) (i : Nat), l.drop i = rest → ∀ j, rest.length < j → ∀ acc : List Ru, acc.length = l.length → acc.take i = l.take i →
    f17_l3 (ρ := ρ) k j l (i : Int) acc nx = nx.1 (((), ()), (l, ()))
  | [], i, h, j, hj, acc, ha, ht => by
    obtain ⟨j, rfl⟩ : ∃ q, j = q + 1 := ⟨j - 1, by simp at hj; omega⟩
    have := ge_nil h
    rw [List.take_of_length_le (by omega), List.take_of_length_le this] at ht
    subst ht
    simp only [f17_l3, out_nil h, cond_false]
  | x :: rest, i, h, j, hj, acc, ha, ht => by
    obtain ⟨j, rfl⟩ : ∃ q, j = q + 1 := ⟨j - 1, by simp at hj; omega⟩
    have hlt := lt_cons h
    obtain ⟨b1, b2⟩ := hl x (List.mem_of_getElem? (at_cons h))
    simp only [f17_l3, in_cons h, cond_true, getI_cons h, Option.bind_some, wr_succ (show i < 4611686018427387904 by omega), bnd (show i < acc.length by omega), Int.toNat_natCast, List.getElem?_eq_getElem (show i < acc.length by omega), f57, copy b1 hk2, copy b2 hk2]
    exact copys_loop k hk2 l hk hl nx rest (i + 1) (next_cons h) j (by simpa using hj) _ (by rw [List.length_set]; exact ha) (take_next h ha ht)

theorem copys {k : Nat} {l : List Ru} (hl : l.length + cost l ≤ 1048576) (hk : 2097152 ≤ k) : f17 k l = some (((), ()), (l, ())) := by
  unfold f17
  rw [show (decide ((l.length : Int) = (l.length : Int)) && decide (0 ≤ (l.length : Int)) && decide ((l.length : Int) * 56 ≤ roomy)) = true from by
    rw [decide_eq_true rfl, dle (by omega), dle (by simp only [roomy]; omega)]; rfl]
  simp only [cond_true]
  exact copys_loop k hk l (by omega) (fun r hr => by have := cost_mem hr; omega) _ l 0 rfl k (by omega) _ (by simp) rfl

/-! ### Comparisons -/
theorem bne_self_int (x : Int) : (x != x) = false := by simp

theorem eq_ints {k : Nat} (l : List Int) (hl : l.length < k) (h2 : l.length < 4611686018427387904) : f18 k l l = some ((true, ()), ()) := by
  have loop : ∀ (rest : List Int) (i : Nat), l.drop i = rest → ∀ j, rest.length < j → f18_l4 (ρ := (Bool × Unit) × Unit) k j l l (i : Int) (fun x8 : (Unit × Unit) => some ((true, ()), ()), fun x9 : ((Bool × Unit) × Unit) => some ((x9.1.1, ()), ()), ()) = some ((true, ()), ()) := by
    intro rest
    induction rest with
    | nil =>
      intro i h j hj
      obtain ⟨j, rfl⟩ : ∃ q, j = q + 1 := ⟨j - 1, by simp at hj; omega⟩
      simp only [f18_l4, out_nil h, cond_false]
    | cons x rest ih =>
      intro i h j hj
      obtain ⟨j, rfl⟩ : ∃ q, j = q + 1 := ⟨j - 1, by simp at hj; omega⟩
      have hlt := lt_cons h
      simp only [f18_l4, in_cons h, cond_true, getI_cons h, Option.bind_some, bne_self_int, cond_false, wr_succ (show i < 4611686018427387904 by omega)]
      exact ih (i + 1) (next_cons h) j (by simpa using hj)
  unfold f18
  rw [bne_self_int]
  exact loop l 0 rfl k hl

theorem eq_intss {k : Nat} (l : List (List Int)) (hl : l.length < k) (h2 : l.length < 4611686018427387904) (hx : ∀ x ∈ l, x.length < k ∧ x.length < 4611686018427387904) : f24 k l l = some ((true, ()), ()) := by
  have loop : ∀ (rest : List (List Int)) (i : Nat), l.drop i = rest → ∀ j, rest.length < j → f24_l4 (ρ := (Bool × Unit) × Unit) k j l l (i : Int) (fun x9 : (Unit × Unit) => some ((true, ()), ()), fun x10 : ((Bool × Unit) × Unit) => some ((x10.1.1, ()), ()), ()) = some ((true, ()), ()) := by
    intro rest
    induction rest with
    | nil =>
      intro i h j hj
      obtain ⟨j, rfl⟩ : ∃ q, j = q + 1 := ⟨j - 1, by simp at hj; omega⟩
      simp only [f24_l4, out_nil h, cond_false]
    | cons x rest ih =>
      intro i h j hj
      obtain ⟨j, rfl⟩ : ∃ q, j = q + 1 := ⟨j - 1, by simp at hj; omega⟩
      have hlt := lt_cons h
      obtain ⟨b1, b2⟩ := hx x (List.mem_of_getElem? (at_cons h))
      simp only [f24_l4, in_cons h, cond_true, getI_cons h, Option.bind_some, eq_ints x b1 b2, Bool.not_true, cond_false, wr_succ (show i < 4611686018427387904 by omega)]
      exact ih (i + 1) (next_cons h) j (by simpa using hj)
  unfold f24
  rw [bne_self_int]
  exact loop l 0 rfl k hl

theorem eq_rules {k : Nat} (l : List Ru) (hl : l.length + cost l ≤ 1048576) (hk : 2097152 ≤ k) : f19 k l l = some ((true, ()), ()) := by
  have loop : ∀ (rest : List Ru) (i : Nat), l.drop i = rest → ∀ j, rest.length < j → f19_l4 (ρ := (Bool × Unit) × Unit) k j l l (i : Int) (fun x9 : (Unit × Unit) => some ((true, ()), ()), fun x10 : ((Bool × Unit) × Unit) => some ((x10.1.1, ()), ()), ()) = some ((true, ()), ()) := by
    intro rest
    induction rest with
    | nil =>
      intro i h j hj
      obtain ⟨j, rfl⟩ : ∃ q, j = q + 1 := ⟨j - 1, by simp at hj; omega⟩
      simp only [f19_l4, out_nil h, cond_false]
    | cons x rest ih =>
      intro i h j hj
      obtain ⟨j, rfl⟩ : ∃ q, j = q + 1 := ⟨j - 1, by simp at hj; omega⟩
      have hlt := lt_cons h
      have hc := cost_mem (List.mem_of_getElem? (at_cons h))
      simp only [f19_l4, in_cons h, cond_true, getI_cons h, Option.bind_some, f58, bne_self_int, cond_false, eq_ints x.2.1 (show x.2.1.length < k by omega) (by omega), eq_ints x.2.2 (show x.2.2.length < k by omega) (by omega), Bool.not_true, wr_succ (show i < 4611686018427387904 by omega)]
      exact ih (i + 1) (next_cons h) j (by simpa using hj)
  unfold f19
  rw [bne_self_int]
  exact loop l 0 rfl k (by omega)

/-! ### Marks -/
def sq : Int → Nat → List Int
  | _, 0 => []
  | c, n + 1 => c :: sq (c + 1) n

theorem sq_length : ∀ (n : Nat) (c : Int), (sq c n).length = n
  | 0, _ => rfl
  | n + 1, c => by simp [sq, sq_length n]

theorem drop_set {α : Type} {l r : List α} {i : Nat} {x y : α} (h : l.drop i = x :: r) : (l.set i y).drop (i + 1) = r := by
  rw [List.drop_set_of_lt (Nat.lt_succ_self i)]; exact next_cons h

theorem take_set {α : Type} {l r : List α} {i : Nat} {x y : α} (h : l.drop i = x :: r) : (l.set i y).take (i + 1) = l.take i ++ [y] := by
  rw [List.take_add_one, List.getElem?_set_self (lt_cons h), List.take_set_of_le (Nat.le_refl i)]; rfl

theorem mark_ints {k : Nat} (l : List Int) (hl : l.length < k) (h2 : l.length ≤ 1099511627776) (c : Int) (h0 : 0 ≤ c) (h1 : c ≤ 1099511627776) : f21 k c l = some ((c + l.length, ()), (sq c l.length, ())) := by
  have loop : ∀ (rest : List Int) (l : List Int) (i : Nat), l.length ≤ 1099511627776 → l.drop i = rest → ∀ j, rest.length < j → ∀ c : Int, 0 ≤ c → c + rest.length ≤ 4398046511104 → f21_l2 (ρ := (Int × Unit) × ((List Int) × Unit)) k j c (i : Int) l (fun x6 : ((Int × Unit) × ((List Int) × Unit)) => some ((x6.1.1, ()), (x6.2.1, ())), ()) = some ((c + rest.length, ()), (l.take i ++ sq c rest.length, ())) := by
    intro rest
    induction rest with
    | nil =>
      intro l i hl h j hj c h0 h1
      obtain ⟨j, rfl⟩ : ∃ q, j = q + 1 := ⟨j - 1, by simp at hj; omega⟩
      simp only [f21_l2, out_nil h, cond_false, List.length_nil, sq, List.append_nil, List.take_of_length_le (ge_nil h)]
      simp
    | cons x rest ih =>
      intro l i hl h j hj c h0 h1
      obtain ⟨j, rfl⟩ : ∃ q, j = q + 1 := ⟨j - 1, by simp at hj; omega⟩
      have hlt := lt_cons h
      simp only [List.length_cons] at h1
      simp only [f21_l2, in_cons h, cond_true, dle (show (0 : Int) ≤ (i : Int) by omega), Bool.and_self, Int.toNat_natCast, at_cons h, Option.bind_some, wr_succ (show i < 4611686018427387904 by omega), wr_id (show -4611686018427387904 ≤ c + 1 by omega) (by omega)]
      rw [ih (l.set i c) (i + 1) (by rw [List.length_set]; exact hl) (drop_set h) j (by simpa using hj) (c + 1) (by omega) (by omega), take_set h]
      simp only [List.length_cons, sq, List.append_assoc, List.singleton_append]
      rw [show c + 1 + (rest.length : Int) = c + ((rest.length + 1 : Nat) : Int) by omega]
  unfold f21
  refine (loop l l 0 h2 rfl k hl c h0 (by omega)).trans ?_
  simp

theorem held_ints {k : Nat} (n : Nat) (hl : n < k) (h2 : n ≤ 1099511627776) (c : Int) (h0 : 0 ≤ c) (h1 : c ≤ 1099511627776) : f22 k (sq c n) c = some ((c + n, ()), ()) := by
  have loop : ∀ (m : Nat) (l : List Int) (i : Nat) (c : Int), l.length ≤ 1099511627776 → l.drop i = sq c m → ∀ j, m < j → 0 ≤ c → c + m ≤ 4398046511104 → f22_l2 (ρ := (Int × Unit) × Unit) k j l c (i : Int) (fun x7 : ((Int × Unit) × Unit) => some ((x7.1.1, ()), ()), fun x8 : ((Int × Unit) × Unit) => some ((x8.1.1, ()), ()), ()) = some ((c + m, ()), ()) := by
    intro m
    induction m with
    | zero =>
      intro l i c hl h j hj h0 h1
      obtain ⟨j, rfl⟩ : ∃ q, j = q + 1 := ⟨j - 1, by omega⟩
      have h : l.drop i = [] := h
      simp only [f22_l2, out_nil h, cond_false]
      simp
    | succ m ih =>
      intro l i c hl h j hj h0 h1
      obtain ⟨j, rfl⟩ : ∃ q, j = q + 1 := ⟨j - 1, by omega⟩
      have h : l.drop i = c :: sq (c + 1) m := h
      have hlt := lt_cons h
      simp only [f22_l2, in_cons h, cond_true, getI_cons h, Option.bind_some, bne_self_int, cond_false, wr_succ (show i < 4611686018427387904 by omega), wr_id (show -4611686018427387904 ≤ c + 1 by omega) (by omega)]
      rw [ih l (i + 1) (c + 1) hl (next_cons h) j (by omega) (by omega) (by omega)]
      rw [show c + 1 + (m : Int) = c + ((m + 1 : Nat) : Int) by omega]
  unfold f22
  exact loop n (sq c n) 0 c (by rw [sq_length]; exact h2) rfl k hl h0 (by omega)

/-- Marks of rows of rows. -/
def msq : Int → List (List Int) → List (List Int)
  | _, [] => []
  | c, l :: r => sq c l.length :: msq (c + l.length) r

def tot : List (List Int) → Nat
  | [] => 0
  | l :: r => l.length + tot r

theorem msq_length : ∀ (l : List (List Int)) (c : Int), (msq c l).length = l.length
  | [], _ => rfl
  | x :: l, c => by simp [msq, msq_length l]

theorem mark_intss {k : Nat} (L : List (List Int)) (hl : L.length < k) (hL : L.length ≤ 1000000) (hx : ∀ x ∈ L, x.length < k ∧ x.length ≤ 1000) (ht : tot L ≤ 1000000000) : f25 k 1 L = some (((1 : Int) + tot L, ()), (msq 1 L, ())) := by
  have loop : ∀ (rest : List (List Int)) (l : List (List Int)) (i : Nat), l.length ≤ 1000000 → l.drop i = rest → (∀ x ∈ rest, x.length < k ∧ x.length ≤ 1000) → ∀ j, rest.length < j → ∀ c : Int, 0 ≤ c → c + tot rest ≤ 1000000001 → f25_l2 (ρ := (Int × Unit) × ((List (List Int)) × Unit)) k j c (i : Int) l (fun x7 : ((Int × Unit) × ((List (List Int)) × Unit)) => some ((x7.1.1, ()), (x7.2.1, ())), ()) = some ((c + tot rest, ()), (l.take i ++ msq c rest, ())) := by
    intro rest
    induction rest with
    | nil =>
      intro l i hl h hx j hj c h0 h1
      obtain ⟨j, rfl⟩ : ∃ q, j = q + 1 := ⟨j - 1, by simp at hj; omega⟩
      simp only [f25_l2, out_nil h, cond_false, tot, msq, List.append_nil, List.take_of_length_le (ge_nil h)]
      simp
    | cons x rest ih =>
      intro l i hl h hx j hj c h0 h1
      obtain ⟨j, rfl⟩ : ∃ q, j = q + 1 := ⟨j - 1, by simp at hj; omega⟩
      have hlt := lt_cons h
      obtain ⟨b1, b2⟩ := hx x (List.mem_cons.2 (.inl rfl))
      simp only [tot] at h1
      simp only [f25_l2, in_cons h, cond_true, dle (show (0 : Int) ≤ (i : Int) by omega), Bool.and_self, Int.toNat_natCast, at_cons h, Option.bind_some, wr_succ (show i < 4611686018427387904 by omega), mark_ints x b1 (by omega) c h0 (by omega)]
      rw [ih (l.set i (sq c x.length)) (i + 1) (by rw [List.length_set]; exact hl) (drop_set h) (fun y hy => hx y (List.mem_cons.2 (.inr hy))) j (by simpa using hj) (c + x.length) (by omega) (by omega), take_set h]
      simp only [tot, msq, List.append_assoc, List.singleton_append]
      rw [show c + (x.length : Int) + (tot rest : Int) = c + ((x.length + tot rest : Nat) : Int) by omega]
  unfold f25
  refine (loop L L 0 hL rfl hx k hl 1 (by omega) (by omega)).trans ?_
  simp

theorem held_intss {k : Nat} (L : List (List Int)) (hl : L.length < k) (hL : L.length ≤ 1000000) (hx : ∀ x ∈ L, x.length < k ∧ x.length ≤ 1000) (ht : tot L ≤ 1000000000) : f26 k (msq 1 L) 1 = some (((1 : Int) + tot L, ()), ()) := by
  have loop : ∀ (rest : List (List Int)) (l : List (List Int)) (i : Nat) (c : Int), l.length ≤ 1000000 → l.drop i = msq c rest → (∀ x ∈ rest, x.length < k ∧ x.length ≤ 1000) → ∀ j, rest.length < j → 0 ≤ c → c + tot rest ≤ 1000000001 → f26_l2 (ρ := (Int × Unit) × Unit) k j l c (i : Int) (fun x8 : ((Int × Unit) × Unit) => some ((x8.1.1, ()), ()), fun x9 : ((Int × Unit) × Unit) => some ((x9.1.1, ()), ()), ()) = some ((c + tot rest, ()), ()) := by
    intro rest
    induction rest with
    | nil =>
      intro l i c hl h hx j hj h0 h1
      obtain ⟨j, rfl⟩ : ∃ q, j = q + 1 := ⟨j - 1, by simp at hj; omega⟩
      have h : l.drop i = [] := h
      simp only [f26_l2, out_nil h, cond_false, tot]
      simp
    | cons x rest ih =>
      intro l i c hl h hx j hj h0 h1
      obtain ⟨j, rfl⟩ : ∃ q, j = q + 1 := ⟨j - 1, by simp at hj; omega⟩
      have h : l.drop i = sq c x.length :: msq (c + x.length) rest := h
      have hlt := lt_cons h
      obtain ⟨b1, b2⟩ := hx x (List.mem_cons.2 (.inl rfl))
      simp only [tot] at h1
      simp only [f26_l2, in_cons h, cond_true, getI_cons h, Option.bind_some, wr_succ (show i < 4611686018427387904 by omega), held_ints x.length b1 (by omega) c h0 (by omega)]
      rw [show decide (c + (x.length : Int) < 0) = false from dnlt (by omega)]
      simp only [cond_false]
      rw [ih l (i + 1) (c + x.length) hl (next_cons h) (fun y hy => hx y (List.mem_cons.2 (.inr hy))) j (by simpa using hj) (by omega) (by omega)]
      simp only [tot]
      rw [show c + (x.length : Int) + (tot rest : Int) = c + ((x.length + tot rest : Nat) : Int) by omega]
  unfold f26
  exact loop L (msq 1 L) 0 1 (by rw [msq_length]; exact hL) rfl hx k hl (by omega) (by omega)

theorem mark_rules {k : Nat} (L : List Ru) (hl : L.length + cost L ≤ 1048576) (hk : 2097152 ≤ k) : ∃ (c : Int) (L' : List Ru), 0 ≤ c ∧ f20 k 1 L = some ((c, ()), (L', ())) := by
  have loop : ∀ (rest : List Ru) (l : List Ru) (i : Nat), l.length ≤ 1048576 → l.drop i = rest → (∀ r ∈ rest, r.2.1.length ≤ 1048576 ∧ r.2.2.length ≤ 1048576) → ∀ j, rest.length < j → ∀ c : Int, 0 ≤ c → c + rest.length + cost rest ≤ 4194304 → ∃ (c' : Int) (L' : List Ru), 0 ≤ c' ∧ f20_l2 (ρ := (Int × Unit) × ((List Ru) × Unit)) k j c (i : Int) l (fun x10 : ((Int × Unit) × ((List Ru) × Unit)) => some ((x10.1.1, ()), (x10.2.1, ())), ()) = some ((c', ()), (L', ())) := by
    intro rest
    induction rest with
    | nil =>
      intro l i hl h hr j hj c h0 h1
      obtain ⟨j, rfl⟩ : ∃ q, j = q + 1 := ⟨j - 1, by simp at hj; omega⟩
      exact ⟨c, l, h0, by simp only [f20_l2, out_nil h, cond_false]⟩
    | cons x rest ih =>
      intro l i hl h hr j hj c h0 h1
      obtain ⟨j, rfl⟩ : ∃ q, j = q + 1 := ⟨j - 1, by simp at hj; omega⟩
      have hlt := lt_cons h
      obtain ⟨b1, b2⟩ := hr x (List.mem_cons.2 (.inl rfl))
      simp only [List.length_cons, cost] at h1
      simp only [f20_l2, in_cons h, cond_true, dle (show (0 : Int) ≤ (i : Int) by omega), Bool.and_self, Int.toNat_natCast, at_cons h, Option.bind_some, List.length_set, List.set_set, List.getElem?_set_self hlt, wr_id (show -4611686018427387904 ≤ c + 1 by omega) (show c + 1 ≤ 4611686018427387904 by omega),
        mark_ints x.2.1 (show x.2.1.length < k by omega) (by omega) (c + 1) (by omega) (by omega), mark_ints x.2.2 (show x.2.2.length < k by omega) (by omega) (c + 1 + x.2.1.length) (by omega) (by omega), wr_succ (show i < 4611686018427387904 by omega)]
      exact ih _ (i + 1) (show (l.set i _).length ≤ 1048576 by rw [List.length_set]; exact hl) (drop_set h) (fun r h => hr r (List.mem_cons.2 (.inr h))) j (by simpa using hj) _ (by omega) (by omega)
  unfold f20
  exact loop L L 0 (by omega) rfl (fun r hr => by have := cost_mem hr; omega) k (by omega) 1 (by omega) (by omega)

/-- What the arguments are known to be. -/
theorem ok_big {l : List Ru} (h : Ok (.sl (.pair (.int .i64) (.pair (.sl (.int .i64)) (.sl (.int .i64))))) l) : big l.length ∧ ∀ r ∈ l, big r.2.1.length ∧ big r.2.2.length := by
  obtain ⟨h1, h2⟩ := h
  refine ⟨h1, fun r hr => ?_⟩
  obtain ⟨_, h3, h4⟩ := h2 r hr
  exact ⟨h3.1, h4.1⟩
end Go.Proofs.Ytiilgicmdnllbaa.R
