/- What comes before what in a region. -/
import Derived.Test.YtkimeoknckohfaaDoorR1Nat
import Derived.Orders
namespace Go.Proofs.YtkimeoknckohfaaDoor.R1

theorem mem_union : ∀ {a b : List Nat} {l : Nat}, l ∈ union a b ↔ l ∈ a ∨ l ∈ b
  | [], b, l => by simp [union]
  | n :: a, b, l => by
    simp only [union]
    cases e : b.any (Nat.beq n) with
    | true =>
      simp only [cond_true, mem_union, List.mem_cons]
      have := any_beq.1 e
      constructor
      · rintro (h | h); exact .inl (.inr h); exact .inr h
      · rintro ((rfl | h) | h); exact .inr this; exact .inl h; exact .inr h
    | false => simp only [cond_false, List.mem_cons, mem_union, or_assoc]

theorem mem_fold (f : Nat → List Nat) : ∀ {es : List Nat} {l : Nat}, l ∈ es.foldr (fun j l => union (j :: f j) l) [] ↔ ∃ e ∈ es, l = e ∨ l ∈ f e
  | [], l => by simp
  | e :: es, l => by
    rw [List.foldr_cons, mem_union, mem_fold f, List.mem_cons]
    constructor
    · rintro (h | ⟨x, hx, h⟩)
      · exact ⟨e, by simp, h⟩
      · exact ⟨x, List.mem_cons_of_mem _ hx, h⟩
    · rintro ⟨x, hx, h⟩
      rcases List.mem_cons.1 hx with rfl | hx
      · exact .inl h
      · exact .inr ⟨x, hx, h⟩

structure Good (ops : List Oper) (bs : List (List Nat)) : Prop where
  len : bs.length = ops.length
  mem : ∀ i o, ops[i]? = some o → ∀ l, l ∈ befOf bs i ↔ ∃ e ∈ edgesOf o, l = e ∨ l ∈ befOf bs e

def Backw (ops : List Oper) : Prop := ∀ i o, ops[i]? = some o → ∀ e ∈ edgesOf o, e < i

theorem backward_spec : ∀ {l : List Oper} {i : Nat}, backward l i = true → ∀ j o, l[j]? = some o → ∀ e ∈ edgesOf o, e < i + j
  | [], _, _, j, o, h => by simp at h
  | p :: l, i, hb, 0, o, h => by
    simp only [backward, Bool.and_eq_true, List.all_eq_true] at hb
    simp at h; subst h
    intro e he
    have := hb.1 e he
    rw [Nat.blt_eq] at this; exact this
  | p :: l, i, hb, j + 1, o, h => by
    simp only [backward, Bool.and_eq_true] at hb
    simp at h
    intro e he
    have := backward_spec hb.2 j o h e he
    omega

theorem befores_spec : ∀ {r pre : List Oper} {acc : List (List Nat)}, Backw (pre ++ r) → Good pre acc → Good (pre ++ r) (befores r acc)
  | [], pre, acc, _, g => by simpa [befores] using g
  | o :: r, pre, acc, hb, g => by
    have hb' : Backw (pre ++ [o] ++ r) := by simpa using hb
    have hpre : ∀ j, j < acc.length → ∀ x, befOf (acc ++ [x]) j = befOf acc j := by
      intro j hj x; simp [befOf, List.getElem?_append_left hj]
    have := befores_spec (r := r) (pre := pre ++ [o]) (acc := acc ++ [(edgesOf o).foldr (fun j l => union (j :: (acc[j]?).getD []) l) []]) hb' (by
      refine ⟨by simp [g.len], fun i p hi l => ?_⟩
      by_cases hlt : i < pre.length
      · rw [List.getElem?_append_left hlt] at hi
        rw [hpre i (by rw [g.len]; exact hlt), g.mem i p hi l]
        constructor
        · rintro ⟨e, he, h⟩
          refine ⟨e, he, ?_⟩
          rw [hpre e]; exact h
          have := hb i p (by rw [List.getElem?_append_left hlt]; exact hi) e he
          rw [g.len]; omega
        · rintro ⟨e, he, h⟩
          refine ⟨e, he, ?_⟩
          rw [hpre e] at h; exact h
          have := hb i p (by rw [List.getElem?_append_left hlt]; exact hi) e he
          rw [g.len]; omega
      · have hi' : i = pre.length ∧ p = o := by
          rw [List.getElem?_append_right (by omega)] at hi
          cases hk : i - pre.length with
          | zero => rw [hk] at hi; simp at hi; exact ⟨by omega, hi.symm⟩
          | succ m => rw [hk] at hi; simp at hi
        obtain ⟨rfl, rfl⟩ := hi'
        have : befOf (acc ++ [(edgesOf p).foldr (fun j l => union (j :: (acc[j]?).getD []) l) []]) pre.length = (edgesOf p).foldr (fun j l => union (j :: (acc[j]?).getD []) l) [] := by
          simp [befOf, ← g.len]
        rw [this, mem_fold (fun j => (acc[j]?).getD [])]
        constructor
        · rintro ⟨e, he, h⟩
          refine ⟨e, he, ?_⟩
          rw [hpre e]; exact h
          have := hb pre.length p (by simp) e he
          rw [g.len]; exact this
        · rintro ⟨e, he, h⟩
          refine ⟨e, he, ?_⟩
          rw [hpre e] at h; exact h
          have := hb pre.length p (by simp) e he
          rw [g.len]; exact this)
    simpa [befores] using this

theorem good_of {ops : List Oper} (h : backward ops 0 = true) : Good ops (befores ops []) ∧ Backw ops := by
  have hb : Backw ops := fun i o hi e he => by have := backward_spec h i o hi e he; omega
  have := befores_spec (r := ops) (pre := []) (acc := []) (by simpa using hb) ⟨rfl, fun i o hi => by simp at hi⟩
  exact ⟨by simpa using this, hb⟩

theorem bef_lt {ops : List Oper} {bs : List (List Nat)} (g : Good ops bs) (hb : Backw ops) : ∀ (i l : Nat), l ∈ befOf bs i → l < i := by
  intro i
  induction i using Nat.strongRecOn with
  | _ i ih =>
    intro l hl
    cases hi : ops[i]? with
    | none =>
      have : bs[i]? = none := by rw [List.getElem?_eq_none_iff] at hi ⊢; rw [g.len]; exact hi
      simp [befOf, this] at hl
    | some o =>
      obtain ⟨e, he, h⟩ := (g.mem i o hi l).1 hl
      have := hb i o hi e he
      rcases h with rfl | h
      · exact this
      · exact Nat.lt_trans (ih e this l h) this

theorem bef_trans {ops : List Oper} {bs : List (List Nat)} (g : Good ops bs) (hb : Backw ops) : ∀ (i j l : Nat), j ∈ befOf bs i → l ∈ befOf bs j → l ∈ befOf bs i := by
  intro i
  induction i using Nat.strongRecOn with
  | _ i ih =>
    intro j l hj hl
    cases hi : ops[i]? with
    | none =>
      have : bs[i]? = none := by rw [List.getElem?_eq_none_iff] at hi ⊢; rw [g.len]; exact hi
      simp [befOf, this] at hj
    | some o =>
      obtain ⟨e, he, h⟩ := (g.mem i o hi j).1 hj
      have := hb i o hi e he
      refine (g.mem i o hi l).2 ⟨e, he, .inr ?_⟩
      rcases h with rfl | h
      · exact hl
      · exact ih e this j l h hl

/-- A set that is closed under edges holds all that comes before its own. -/
theorem bef_closed {ops : List Oper} {bs : List (List Nat)} (g : Good ops bs) (hb : Backw ops) {X : Nat → Prop} (hX : ∀ j o, X j → ops[j]? = some o → ∀ e ∈ edgesOf o, X e) : ∀ (j l : Nat), X j → l ∈ befOf bs j → X l := by
  intro j
  induction j using Nat.strongRecOn with
  | _ j ih =>
    intro l hj hl
    cases hi : ops[j]? with
    | none =>
      have : bs[j]? = none := by rw [List.getElem?_eq_none_iff] at hi ⊢; rw [g.len]; exact hi
      simp [befOf, this] at hl
    | some o =>
      obtain ⟨e, he, h⟩ := (g.mem j o hi l).1 hl
      rcases h with rfl | h
      · exact hX j o hj hi l he
      · exact ih e (hb j o hi e he) l (hX j o hj hi e he) h

theorem edge_bef {ops : List Oper} {bs : List (List Nat)} (g : Good ops bs) {i : Nat} {o : Oper} (hi : ops[i]? = some o) {e : Nat} (he : e ∈ edgesOf o) : e ∈ befOf bs i := (g.mem i o hi e).2 ⟨e, he, .inl rfl⟩

theorem distinctO_spec : ∀ {l : List (Option Nat)}, distinctO l = true → ∀ {i j d : Nat}, l[i]? = some (some d) → l[j]? = some (some d) → i = j := by
  intro l
  induction l with
  | nil => intro _ i j d h; simp at h
  | cons x l ih =>
    intro hd i j d hi hj
    have hl : distinctO l = true := by
      cases x with
      | none => exact hd
      | some n => simp only [distinctO, Bool.and_eq_true] at hd; exact hd.2
    have hx : ∀ k : Nat, x = some d → l[k]? = some (some d) → False := by
      rintro k rfl hk
      simp only [distinctO, Bool.and_eq_true, Bool.not_eq_true'] at hd
      have hm : (some d : Option Nat) ∈ l := List.mem_of_getElem? hk
      have h1 := List.any_eq_false.1 hd.1 _ hm
      exact h1 (Nat.beq_refl d)
    cases i with
    | zero => cases j with
      | zero => rfl
      | succ j => simp at hi hj; exact (hx j hi hj).elim
    | succ i => cases j with
      | zero => simp at hi hj; exact (hx i hj hi).elim
      | succ j => simp at hi hj; rw [ih hl hi hj]

theorem dst_inj {ops : List Oper} (hd : distinctO (ops.map (·.dst)) = true) {i j d : Nat} (hi : dstAt ops i = some d) (hj : dstAt ops j = some d) : i = j := by
  refine distinctO_spec hd (i := i) (j := j) (d := d) ?_ ?_
  · unfold dstAt at hi
    cases e : ops[i]? with
    | none => rw [e] at hi; cases hi
    | some o => rw [e] at hi; simp [e]; exact hi
  · unfold dstAt at hj
    cases e : ops[j]? with
    | none => rw [e] at hj; cases hj
    | some o => rw [e] at hj; simp [e]; exact hj

/-- A name has one operation that may own it. -/
theorem owns_inj {ops : List Oper} (hd : distinctO (ops.map (·.dst)) = true) {i j n : Nat} {o p : Oper} {d e : Nat} (hi : ops[i]? = some o) (hj : ops[j]? = some p) (ho : o.dst = some d) (hp : p.dst = some e) (hdl : d < 10000) (hel : e < 10000)
    (h : owns o n = true) (h' : owns p n = true) : i = j := by
  have e1 : Oper.name o = d := by simp [Oper.name, ho]
  have e2 : Oper.name p = e := by simp [Oper.name, hp]
  have key : ∀ {q : Oper} {c : Nat}, Oper.name q = c → c < 10000 → owns q n = true → n = c ∨ (2000000 + c * 100 ≤ n ∧ n < 2000000 + c * 100 + 100) := by
    intro q c e3 hc h
    unfold owns at h
    rw [e3] at h
    split at h
    · exact .inl (Nat.eq_of_beq_eq_true h)
    · simp only [ownC, Bool.or_eq_true, Bool.and_eq_true, Nat.ble_eq, Nat.blt_eq] at h
      rcases h with h | h
      · exact .inl (Nat.eq_of_beq_eq_true h)
      · exact .inr h
    · cases h
  have key : d = e := by
    rcases key e1 hdl h with h | h <;> rcases key e2 hel h' with h' | h' <;> omega
  subst key
  exact dst_inj (d := d) hd (by simp [dstAt, hi, ho]) (by simp [dstAt, hj, hp])

theorem owns_kept {o : Oper} {d n : Nat} (ho : o.dst = some d) (hd : d < 10000) (h : owns o n = true) : isKept n = false := by
  have e1 : Oper.name o = d := by simp [Oper.name, ho]
  have key : n < 1000000 ∨ (2000000 ≤ n ∧ n < 3000000) := by
    unfold owns at h
    rw [e1] at h
    split at h
    · have := Nat.eq_of_beq_eq_true h; omega
    · simp only [ownC, Bool.or_eq_true, Bool.and_eq_true, Nat.ble_eq, Nat.blt_eq] at h
      rcases h with h | h
      · have := Nat.eq_of_beq_eq_true h; omega
      · omega
    · cases h
  unfold isKept isGlob isParam
  have h1 : (Nat.ble 1000000 n && Nat.blt n 2000000) = false := by
    rw [Bool.eq_false_iff]; intro hh; simp only [Bool.and_eq_true, Nat.ble_eq, Nat.blt_eq] at hh; omega
  have h2 : (Nat.ble 3000000 n && Nat.blt n 4000000) = false := by
    rw [Bool.eq_false_iff]; intro hh; simp only [Bool.and_eq_true, Nat.ble_eq, Nat.blt_eq] at hh; omega
  rw [h1, h2]; rfl

end Go.Proofs.YtkimeoknckohfaaDoor.R1
