/- Comparisons, marks of lists of lists. -/
import Derived.Test.YtplcjfnobdlkeaaR1F2
import Derived.Test.YtplcjfnobdlkeaaR1Plain
namespace Go.Proofs.Ytplcjfnobdlkeaa.R
open Go.Proofs.Ytplcjfnobdlkeaa.R1

theorem bne_self_int (x : Int) : (x != x) = false := by simp

theorem eq_ints {k : Nat} (l : List Int) (hl : l.length < k) (h2 : l.length < 4611686018427387904) : f22 k l l = some ((true, ()), ()) := by
  have loop : ∀ (rest : List Int) (i : Nat), l.drop i = rest → ∀ j, rest.length < j → f22_l4 (ρ := (Bool × Unit) × Unit) k j l l (i : Int) (fun x8 : (Unit × Unit) => some ((true, ()), ()), fun x9 : ((Bool × Unit) × Unit) => some ((x9.1.1, ()), ()), ()) = some ((true, ()), ()) := by
    intro rest
    induction rest with
    | nil =>
      intro i h j hj
      obtain ⟨j, rfl⟩ : ∃ q, j = q + 1 := ⟨j - 1, by simp at hj; omega⟩
      simp only [f22_l4, out_nil h, cond_false]
    | cons x rest ih =>
      intro i h j hj
      obtain ⟨j, rfl⟩ : ∃ q, j = q + 1 := ⟨j - 1, by simp at hj; omega⟩
      have hlt := lt_cons h
      simp only [f22_l4, in_cons h, cond_true, getI_cons h, Option.bind_some, bne_self_int, cond_false, wr_succ (show i < 4611686018427387904 by omega)]
      exact ih (i + 1) (next_cons h) j (by simpa using hj)
  unfold f22
  rw [bne_self_int]
  exact loop l 0 rfl k hl

theorem eq_intss {k : Nat} (l : List (List Int)) (hl : l.length < k) (h2 : l.length < 4611686018427387904) (hx : ∀ x ∈ l, x.length < k ∧ x.length < 4611686018427387904) : f9 k l l = some ((true, ()), ()) := by
  have loop : ∀ (rest : List (List Int)) (i : Nat), l.drop i = rest → ∀ j, rest.length < j → f9_l4 (ρ := (Bool × Unit) × Unit) k j l l (i : Int) (fun x9 : (Unit × Unit) => some ((true, ()), ()), fun x10 : ((Bool × Unit) × Unit) => some ((x10.1.1, ()), ()), ()) = some ((true, ()), ()) := by
    intro rest
    induction rest with
    | nil =>
      intro i h j hj
      obtain ⟨j, rfl⟩ : ∃ q, j = q + 1 := ⟨j - 1, by simp at hj; omega⟩
      simp only [f9_l4, out_nil h, cond_false]
    | cons x rest ih =>
      intro i h j hj
      obtain ⟨j, rfl⟩ : ∃ q, j = q + 1 := ⟨j - 1, by simp at hj; omega⟩
      have hlt := lt_cons h
      obtain ⟨b1, b2⟩ := hx x (List.mem_of_getElem? (at_cons h))
      simp only [f9_l4, in_cons h, cond_true, getI_cons h, Option.bind_some, eq_ints x b1 b2, Bool.not_true, cond_false, wr_succ (show i < 4611686018427387904 by omega)]
      exact ih (i + 1) (next_cons h) j (by simpa using hj)
  unfold f9
  rw [bne_self_int]
  exact loop l 0 rfl k hl

def sq : Int → Nat → List Int
  | _, 0 => []
  | c, n + 1 => c :: sq (c + 1) n

theorem sq_length : ∀ (n : Nat) (c : Int), (sq c n).length = n
  | 0, _ => rfl
  | n + 1, c => by simp [sq, sq_length n]

theorem drop_set {α : Type} {l r : List α} {i : Nat} {x y : α} (h : l.drop i = x :: r) : (l.set i y).drop (i + 1) = r := by
  rw [List.drop_set_of_lt (Nat.lt_succ_self i)]; exact next_cons h

theorem take_set {α : Type} {l r : List α} {i : Nat} {x y : α} (h : l.drop i = x :: r) : (l.set i y).take (i + 1) = l.take i ++ [y] := by
  rw [List.take_add_one, List.getElem?_set_self (lt_cons h), List.take_set_of_le (Nat.le_refl i)]; rfl

theorem mark_ints {k : Nat} (l : List Int) (hl : l.length < k) (h2 : l.length ≤ 1099511627776) (c : Int) (h0 : 0 ≤ c) (h1 : c ≤ 1099511627776) : f23 k c l = some ((c + l.length, ()), (sq c l.length, ())) := by
  have loop : ∀ (rest : List Int) (l : List Int) (i : Nat), l.length ≤ 1099511627776 → l.drop i = rest → ∀ j, rest.length < j → ∀ c : Int, 0 ≤ c → c + rest.length ≤ 4398046511104 → f23_l2 (ρ := (Int × Unit) × ((List Int) × Unit)) k j c (i : Int) l (fun x6 : ((Int × Unit) × ((List Int) × Unit)) => some ((x6.1.1, ()), (x6.2.1, ())), ()) = some ((c + rest.length, ()), (l.take i ++ sq c rest.length, ())) := by
    intro rest
    induction rest with
    | nil =>
      intro l i hl h j hj c h0 h1
      obtain ⟨j, rfl⟩ : ∃ q, j = q + 1 := ⟨j - 1, by simp at hj; omega⟩
      simp only [f23_l2, out_nil h, cond_false, List.length_nil, sq, List.append_nil, List.take_of_length_le (ge_nil h)]
      simp
    | cons x rest ih =>
      intro l i hl h j hj c h0 h1
      obtain ⟨j, rfl⟩ : ∃ q, j = q + 1 := ⟨j - 1, by simp at hj; omega⟩
      have hlt := lt_cons h
      simp only [List.length_cons] at h1
      simp only [f23_l2, in_cons h, cond_true, dle (show (0 : Int) ≤ (i : Int) by omega), Bool.and_self, Int.toNat_natCast, at_cons h, Option.bind_some, wr_succ (show i < 4611686018427387904 by omega), wr_id (show -4611686018427387904 ≤ c + 1 by omega) (by omega)]
      rw [ih (l.set i c) (i + 1) (by rw [List.length_set]; exact hl) (drop_set h) j (by simpa using hj) (c + 1) (by omega) (by omega), take_set h]
      simp only [List.length_cons, sq, List.append_assoc, List.singleton_append]
      rw [show c + 1 + (rest.length : Int) = c + ((rest.length + 1 : Nat) : Int) by omega]
  unfold f23
  refine (loop l l 0 h2 rfl k hl c h0 (by omega)).trans ?_
  simp

theorem held_ints {k : Nat} (n : Nat) (hl : n < k) (h2 : n ≤ 1099511627776) (c : Int) (h0 : 0 ≤ c) (h1 : c ≤ 1099511627776) : f24 k (sq c n) c = some ((c + n, ()), ()) := by
  have loop : ∀ (m : Nat) (l : List Int) (i : Nat) (c : Int), l.length ≤ 1099511627776 → l.drop i = sq c m → ∀ j, m < j → 0 ≤ c → c + m ≤ 4398046511104 → f24_l2 (ρ := (Int × Unit) × Unit) k j l c (i : Int) (fun x7 : ((Int × Unit) × Unit) => some ((x7.1.1, ()), ()), fun x8 : ((Int × Unit) × Unit) => some ((x8.1.1, ()), ()), ()) = some ((c + m, ()), ()) := by
    intro m
    induction m with
    | zero =>
      intro l i c hl h j hj h0 h1
      obtain ⟨j, rfl⟩ : ∃ q, j = q + 1 := ⟨j - 1, by omega⟩
      have h : l.drop i = [] := h
      simp only [f24_l2, out_nil h, cond_false]
      simp
    | succ m ih =>
      intro l i c hl h j hj h0 h1
      obtain ⟨j, rfl⟩ : ∃ q, j = q + 1 := ⟨j - 1, by omega⟩
      have h : l.drop i = c :: sq (c + 1) m := h
      have hlt := lt_cons h
      simp only [f24_l2, in_cons h, cond_true, getI_cons h, Option.bind_some, bne_self_int, cond_false, wr_succ (show i < 4611686018427387904 by omega), wr_id (show -4611686018427387904 ≤ c + 1 by omega) (by omega)]
      rw [ih l (i + 1) (c + 1) hl (next_cons h) j (by omega) (by omega) (by omega)]
      rw [show c + 1 + (m : Int) = c + ((m + 1 : Nat) : Int) by omega]
  unfold f24
  exact loop n (sq c n) 0 c (by rw [sq_length]; exact h2) rfl k hl h0 (by omega)

/-- Marks of rows of rows. -/
def msq : Int → List (List Int) → List (List Int)
  | _, [] => []
  | c, l :: r => sq c l.length :: msq (c + l.length) r

def tot : List (List Int) → Nat
  | [] => 0
  | l :: r => l.length + tot r

theorem msq_length : ∀ (l : List (List Int)) (c : Int), (msq c l).length = l.length
  | [], _ => rfl
  | x :: l, c => by simp [msq, msq_length l]

theorem mark_intss {k : Nat} (L : List (List Int)) (hl : L.length < k) (hL : L.length ≤ 1000000) (hx : ∀ x ∈ L, x.length < k ∧ x.length ≤ 1000) (ht : tot L ≤ 1000000000) : f10 k 1 L = some (((1 : Int) + tot L, ()), (msq 1 L, ())) := by
  have loop : ∀ (rest : List (List Int)) (l : List (List Int)) (i : Nat), l.length ≤ 1000000 → l.drop i = rest → (∀ x ∈ rest, x.length < k ∧ x.length ≤ 1000) → ∀ j, rest.length < j → ∀ c : Int, 0 ≤ c → c + tot rest ≤ 1000000001 → f10_l2 (ρ := (Int × Unit) × ((List (List Int)) × Unit)) k j c (i : Int) l (fun x7 : ((Int × Unit) × ((List (List Int)) × Unit)) => some ((x7.1.1, ()), (x7.2.1, ())), ()) = some ((c + tot rest, ()), (l.take i ++ msq c rest, ())) := by
    intro rest
    induction rest with
    | nil =>
      intro l i hl h hx j hj c h0 h1
      obtain ⟨j, rfl⟩ : ∃ q, j = q + 1 := ⟨j - 1, by simp at hj; omega⟩
      simp only [f10_l2, out_nil h, cond_false, tot, msq, List.append_nil, List.take_of_length_le (ge_nil h)]
      simp
    | cons x rest ih =>
      intro l i hl h hx j hj c h0 h1
      obtain ⟨j, rfl⟩ : ∃ q, j = q + 1 := ⟨j - 1, by simp at hj; omega⟩
      have hlt := lt_cons h
      obtain ⟨b1, b2⟩ := hx x (List.mem_cons.2 (.inl rfl))
      simp only [tot] at h1
      simp only [f10_l2, in_cons h, cond_true, dle (show (0 : Int) ≤ (i : Int) by omega), Bool.and_self, Int.toNat_natCast, at_cons h, Option.bind_some, wr_succ (show i < 4611686018427387904 by omega), mark_ints x b1 (by omega) c h0 (by omega)]
      rw [ih (l.set i (sq c x.length)) (i + 1) (by rw [List.length_set]; exact hl) (drop_set h) (fun y hy => hx y (List.mem_cons.2 (.inr hy))) j (by simpa using hj) (c + x.length) (by omega) (by omega), take_set h]
      simp only [tot, msq, List.append_assoc, List.singleton_append]
      rw [show c + (x.length : Int) + (tot rest : Int) = c + ((x.length + tot rest : Nat) : Int) by omega]
  unfold f10
  refine (loop L L 0 hL rfl hx k hl 1 (by omega) (by omega)).trans ?_
  simp

theorem held_intss {k : Nat} (L : List (List Int)) (hl : L.length < k) (hL : L.length ≤ 1000000) (hx : ∀ x ∈ L, x.length < k ∧ x.length ≤ 1000) (ht : tot L ≤ 1000000000) : f11 k (msq 1 L) 1 = some (((1 : Int) + tot L, ()), ()) := by
  have loop : ∀ (rest : List (List Int)) (l : List (List Int)) (i : Nat) (c : Int), l.length ≤ 1000000 → l.drop i = msq c rest → (∀ x ∈ rest, x.length < k ∧ x.length ≤ 1000) → ∀ j, rest.length < j → 0 ≤ c → c + tot rest ≤ 1000000001 → f11_l2 (ρ := (Int × Unit) × Unit) k j l c (i : Int) (fun x8 : ((Int × Unit) × Unit) => some ((x8.1.1, ()), ()), fun x9 : ((Int × Unit) × Unit) => some ((x9.1.1, ()), ()), ()) = some ((c + tot rest, ()), ()) := by
    intro rest
    induction rest with
    | nil =>
      intro l i c hl h hx j hj h0 h1
      obtain ⟨j, rfl⟩ : ∃ q, j = q + 1 := ⟨j - 1, by simp at hj; omega⟩
      have h : l.drop i = [] := h
      simp only [f11_l2, out_nil h, cond_false, tot]
      simp
    | cons x rest ih =>
      intro l i c hl h hx j hj h0 h1
      obtain ⟨j, rfl⟩ : ∃ q, j = q + 1 := ⟨j - 1, by simp at hj; omega⟩
      have h : l.drop i = sq c x.length :: msq (c + x.length) rest := h
      have hlt := lt_cons h
      obtain ⟨b1, b2⟩ := hx x (List.mem_cons.2 (.inl rfl))
      simp only [tot] at h1
      simp only [f11_l2, in_cons h, cond_true, getI_cons h, Option.bind_some, wr_succ (show i < 4611686018427387904 by omega), held_ints x.length b1 (by omega) c h0 (by omega)]
      rw [show decide (c + (x.length : Int) < 0) = false from dnlt (by omega)]
      simp only [cond_false]
      rw [ih l (i + 1) (c + x.length) hl (next_cons h) (fun y hy => hx y (List.mem_cons.2 (.inr hy))) j (by simpa using hj) (by omega) (by omega)]
      simp only [tot]
      rw [show c + (x.length : Int) + (tot rest : Int) = c + ((x.length + tot rest : Nat) : Int) by omega]
  unfold f11
  exact loop L (msq 1 L) 0 1 (by rw [msq_length]; exact hL) rfl hx k hl (by omega) (by omega)

theorem tot_le : ∀ {L : List (List Int)}, (∀ x ∈ L, x.length ≤ 200) → tot L ≤ 200 * L.length
  | [], _ => Nat.le_refl 0
  | x :: L, h => by
    have h1 := h x (List.mem_cons.2 (.inl rfl))
    have h2 := tot_le (L := L) fun y hy => h y (List.mem_cons.2 (.inr hy))
    simp only [tot, List.length_cons]
    omega
end Go.Proofs.Ytplcjfnobdlkeaa.R
