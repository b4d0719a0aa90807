/- What a rule forces: both sides say the same. -/
import Derived.Test.YtiilgicmdnllbaaR1SvB
namespace Go.Proofs.Ytiilgicmdnllbaa.R
open Go.Proofs.Ytiilgicmdnllbaa.R1

def fz (vals : List Int) (vs : List Int) : List Int := vs.filter fun v => vat vals v == 0

def fcd (r : Ru) (vals : List Int) : Option (Int × Int) :=
  bif hold r vals != 0 then none else match fz vals r.2.1 with
    | [v] => bif decide (hold r (vals.set v.toNat (-1)) < 0) then some (v, 1) else bif decide (hold r (vals.set v.toNat 1) < 0) then some (v, -1) else none
    | _ => none

theorem Vok.set {n : Nat} {vals : List Int} (hv : Vok n vals) (v : Nat) {x : Int} (hx : x = -1 ∨ x = 0 ∨ x = 1) : Vok n (vals.set v x) := by
  refine ⟨by rw [List.length_set]; exact hv.l, fun y hy => ?_⟩
  rcases List.mem_or_eq_of_mem_set hy with h | h
  · exact hv.t y h
  · rw [h]; exact hx

theorem set_back {vals : List Int} {v : Nat} {x y : Int} (h : vals[v]? = some y) : (vals.set v x).set v y = vals := by
  rw [List.set_set]
  apply List.ext_getElem?
  intro i
  rw [List.getElem?_set]
  split
  · rename_i e; subst e
    split
    · exact h.symm
    · rename_i q
      rw [List.getElem?_eq_none (by omega)] at h; cases h
  · rfl

/-- The open one, if it is the only one. -/
def pick (o : Int) : List Int → Option Int
  | [] => some o
  | v :: r => bif decide (o ≥ 0) then none else pick v r

theorem spec_open_loop {ρ : Type} (k : Nat) (r : Ru) (vals : List Int) {n : Nat} (hv : Vok n vals) (hr : Rok n r) (nx) : ∀ (vs : List Int) (i : Nat), r.2.1.drop i = vs → ∀ j, vs.length < j → ∀ o,
    f95_l5 (ρ := ρ) k j r o (i : Int) vals nx = match pick o (fz vals vs) with
      | some o' => nx.1 ((r, (), o', ()), (vals, ()))
      | none => nx.2.1 ((-1, 0, ()), (vals, ()))
  | [], i, h, j, hj, o => by
    obtain ⟨j, rfl⟩ : ∃ q, j = q + 1 := ⟨j - 1, by simp at hj; omega⟩
    simp only [f95_l5, out_nil h, cond_false]; rfl
  | v :: vs, i, h, j, hj, o => by
    obtain ⟨j, rfl⟩ : ∃ q, j = q + 1 := ⟨j - 1, by simp at hj; omega⟩
    have hlt := lt_cons h
    have hlen : i < 4611686018427387904 := by have := hr.lv; have := hr.k4; omega
    obtain ⟨b0, b1⟩ := hr.v v (List.mem_of_getElem? (at_cons h))
    obtain ⟨_, e2, e3⟩ := vat_some hv b0 b1
    have ih := spec_open_loop k r vals hv hr nx vs (i + 1) (next_cons h) j (by simpa using hj)
    have hfz : fz vals (v :: vs) = bif vat vals v == 0 then v :: fz vals vs else fz vals vs := by
      unfold fz; rw [List.filter_cons]; cases vat vals v == 0 <;> rfl
    rw [hfz]
    have hb := bndI b0 (show v < (vals.length : Int) by rw [hv.l]; exact b1)
    simp only [f95_l5, in_cons h, cond_true, getI_cons h, Option.bind_some, hb, e2, wr_succ hlen]
    rw [show (vat vals v != 0) = !(vat vals v == 0) from rfl]
    cases vat vals v == 0 with
    | false => simp only [Bool.not_false, cond_true, cond_false]; exact ih o
    | true =>
      simp only [Bool.not_true, cond_false, cond_true, pick]
      cases decide (o ≥ 0) with
      | true => rfl
      | false => simp only [cond_false]; exact ih v

theorem fz_mem {vals vs : List Int} {v : Int} (h : v ∈ fz vals vs) : v ∈ vs ∧ vat vals v = 0 := by
  unfold fz at h
  rw [List.mem_filter] at h
  exact ⟨h.1, by simpa using h.2⟩

theorem pick_fz {n : Nat} {r : Ru} (hr : Rok n r) {vals : List Int} : (∃ v, fz vals r.2.1 = [v] ∧ pick (-1) (fz vals r.2.1) = some v ∧ v ∈ r.2.1 ∧ vat vals v = 0) ∨ fz vals r.2.1 = [] ∨ (pick (-1) (fz vals r.2.1) = none ∧ ∃ a b l, fz vals r.2.1 = a :: b :: l) := by
  cases h : fz vals r.2.1 with
  | nil => exact .inr (.inl rfl)
  | cons v l =>
    have hm := fz_mem (vals := vals) (vs := r.2.1) (v := v) (by rw [h]; exact List.mem_cons.2 (.inl rfl))
    cases l with
    | nil => exact .inl ⟨v, rfl, rfl, hm⟩
    | cons w l =>
      refine .inr (.inr ⟨?_, v, w, l, rfl⟩)
      have := (hr.v v hm.1).1
      simp only [pick]
      rw [show decide ((-1 : Int) ≥ 0) = false from rfl, show decide (v ≥ 0) = true from decide_eq_true this]; rfl

/-- What is forced, as the specification tells it. -/
def fs (o : Option (Int × Int)) : Int × Int := match o with
  | some p => p
  | none => (-1, 0)

theorem spec_forced {k n : Nat} (hk : 5 ≤ k) {r : Ru} {vals : List Int} (hv : Vok n vals) (hr : Rok n r) : f95 k r vals = some (((fs (fcd r vals)).1, (fs (fcd r vals)).2, ()), (vals, ())) := by
  unfold f95
  rw [spec_hold hk hv hr]
  simp only [Option.bind_some]
  unfold fcd
  cases h0 : hold r vals != 0 with
  | true => rfl
  | false =>
    simp only [cond_false]
    have hz : hold r vals = 0 := by simpa using h0
    refine (spec_open_loop k r vals hv hr _ r.2.1 0 rfl k (by have := hr.lv; have := hr.k4; omega) (-1)).trans ?_
    rcases pick_fz hr (vals := vals) with ⟨v, e1, e2, hm, hvz⟩ | e | ⟨e2, a, b, l, e1⟩
    · rw [e2, e1]
      obtain ⟨b0, b1⟩ := hr.v v hm
      obtain ⟨_, e3, _⟩ := vat_some hv b0 b1
      rw [hvz] at e3
      obtain ⟨k, rfl⟩ : ∃ q, k = q + 3 := ⟨k - 3, by omega⟩
      have hs1 := hv.set v.toNat (x := -1) (.inl rfl)
      have hs2 := hv.set v.toNat (x := 1) (.inr (.inr rfl))
      have hb := bndI b0 (show v < (vals.length : Int) by rw [hv.l]; exact b1)
      simp only [f95_l12]
      rw [show decide ((-1 : Int) ≤ 1) = true from rfl]
      simp only [cond_true, hb, e3, Option.bind_some, spec_hold hk hs1 hr, List.length_set, List.getElem?_set_self (show v.toNat < vals.length by rw [hv.l]; omega), set_back e3]
      cases decide (hold r (vals.set v.toNat (-1)) < 0) with
      | true => rfl
      | false =>
        simp only [cond_false]
        rw [show wr .i64 (-1 + 2) = 1 from rfl, show decide ((1 : Int) ≤ 1) = true from rfl]
        simp only [cond_true, spec_hold hk hs2 hr, Option.bind_some]
        cases decide (hold r (vals.set v.toNat 1) < 0) with
        | true => rfl
        | false =>
          simp only [cond_false]
          rw [show wr .i64 (1 + 2) = 3 from rfl, show decide ((3 : Int) ≤ 1) = false from rfl]
          rfl
    · exfalso
      obtain ⟨v, hm, hvz⟩ := hold_open hv hr hz
      have : v ∈ fz vals r.2.1 := List.mem_filter.2 ⟨hm, by rw [hvz]; rfl⟩
      rw [e] at this; cases this
    · rw [e2, e1]; rfl

theorem del_fn (k : Nat) {n : Nat} {vals : List Int} (hv : Vok n vals) {v : Int} (h0 : 0 ≤ v) (h1 : v < n) : f105 k v vals = some ((!(vat vals v == 0), ()), ()) := by
  unfold f105
  rw [(vat_some hv h0 h1).1]; rfl

theorem idx_loop {ρ : Type} (k : Nat) (l vals : List Int) {n : Nat} (hv : Vok n vals) (hl : ∀ x ∈ l, 0 ≤ x ∧ x < n) (hk : l.length < 4611686018427387904) (nx) : ∀ (rest : List Int) (i : Nat), l.drop i = rest → ∀ j, rest.length < j →
    (fz vals rest = rest ∧ f94a_l2 (ρ := ρ) k j l vals (l.length : Int) (i : Int) nx = nx.1 ((), ())) ∨
    ∃ a x b, rest = a ++ x :: b ∧ fz vals a = a ∧ (vat vals x == 0) = false ∧ f94a_l2 (ρ := ρ) k j l vals (l.length : Int) (i : Int) nx = nx.2.1 ((((i + a.length : Nat) : Int), ()), ())
  | [], i, h, j, hj => by
    obtain ⟨j, rfl⟩ : ∃ q, j = q + 1 := ⟨j - 1, by simp at hj; omega⟩
    exact .inl ⟨rfl, by simp only [f94a_l2, out_nil h, cond_false]⟩
  | x :: rest, i, h, j, hj => by
    obtain ⟨j, rfl⟩ : ∃ q, j = q + 1 := ⟨j - 1, by simp at hj; omega⟩
    have hlt := lt_cons h
    obtain ⟨b0, b1⟩ := hl x (List.mem_of_getElem? (at_cons h))
    have ih := idx_loop k l vals hv hl hk nx rest (i + 1) (next_cons h) j (by simpa using hj)
    simp only [f94a_l2, in_cons h, cond_true, getI_cons h, Option.bind_some, del_fn k hv b0 b1, wr_succ (show i < 4611686018427387904 by omega)]
    cases hz : vat vals x == 0 with
    | false => exact .inr ⟨[], x, rest, rfl, rfl, hz, by simp only [Bool.not_false, cond_true]; rfl⟩
    | true =>
      simp only [Bool.not_true, cond_false]
      rcases ih with ⟨e1, e2⟩ | ⟨a, y, b, e1, e2, e3, e4⟩
      · exact .inl ⟨by unfold fz at e1 ⊢; rw [List.filter_cons, hz, e1]; rfl, e2⟩
      · refine .inr ⟨x :: a, y, b, by rw [e1]; rfl, by unfold fz at e2 ⊢; rw [List.filter_cons, hz, e2]; rfl, e3, ?_⟩
        rw [e4, show i + 1 + a.length = i + (x :: a).length by rw [List.length_cons]; omega]

theorem del_loop {ρ : Type} (k : Nat) (vals : List Int) {n : Nat} (hv : Vok n vals) (nx) : ∀ (rest : List Int), (∀ x ∈ rest, 0 ≤ x ∧ x < n) → ∀ (l : List Int) (w i : Nat), l.length < 4611686018427387904 → l.drop i = rest → w ≤ i → w ≤ l.length → ∀ j, rest.length < j →
    ∃ l' w', f104_l5 (ρ := ρ) k j vals (w : Int) (i : Int) l nx = nx.1 (((), ((w' : Nat) : Int), ()), (l', ())) ∧ l'.length = l.length ∧ w' ≤ l.length ∧ l'.take w' = l.take w ++ fz vals rest
  | [], _, l, w, i, hk, h, hw, hwl, j, hj => by
    obtain ⟨j, rfl⟩ : ∃ q, j = q + 1 := ⟨j - 1, by simp at hj; omega⟩
    exact ⟨l, w, by simp only [f104_l5, out_nil h, cond_false], rfl, hwl, by simp [fz]⟩
  | x :: rest, hx, l, w, i, hk, h, hw, hwl, j, hj => by
    obtain ⟨j, rfl⟩ : ∃ q, j = q + 1 := ⟨j - 1, by simp at hj; omega⟩
    have hlt := lt_cons h
    obtain ⟨b0, b1⟩ := hx x (List.mem_cons.2 (.inl rfl))
    have hx' : ∀ y ∈ rest, 0 ≤ y ∧ y < n := fun y hy => hx y (List.mem_cons.2 (.inr hy))
    simp only [f104_l5, in_cons h, cond_true, bnd hlt, Int.toNat_natCast, at_cons h, Option.bind_some, del_fn k hv b0 b1, wr_succ (show i < 4611686018427387904 by omega), wr_succ (show w < 4611686018427387904 by omega)]
    have hfz : fz vals (x :: rest) = bif vat vals x == 0 then x :: fz vals rest else fz vals rest := by
      unfold fz; rw [List.filter_cons]; cases vat vals x == 0 <;> rfl
    rw [hfz]
    cases hz : vat vals x == 0 with
    | false =>
      simp only [Bool.not_false, Bool.not_true, cond_false]
      exact del_loop k vals hv nx rest hx' l w (i + 1) hk (next_cons h) (by omega) hwl j (by simpa using hj)
    | true =>
      simp only [Bool.not_true, Bool.not_false, cond_true, bnd (show w < l.length by omega), List.getElem?_eq_getElem (show w < l.length by omega), Option.bind_some]
      have hds : (l.set w x).drop (i + 1) = rest := by rw [List.drop_set_of_lt (show w < i + 1 by omega)]; exact next_cons h
      obtain ⟨l', w', e1, e2, e3, e4⟩ := del_loop k vals hv nx rest hx' (l.set w x) (w + 1) (i + 1) (by rw [List.length_set]; exact hk) hds (by omega) (by rw [List.length_set]; omega) j (by simpa using hj)
      rw [List.length_set] at e2 e3
      refine ⟨l', w', e1, e2, e3, ?_⟩
      rw [e4, List.take_add_one, List.getElem?_set_self (by omega), List.take_set_of_le (Nat.le_refl w)]
      simp

theorem take_clear (l : List Int) (w : Nat) (z : Int) : (clearFrom l w z).take w = l.take w ∧ (w ≤ l.length → (clearFrom l w z).length = l.length) := by
  constructor
  · unfold clearFrom
    by_cases h : w ≤ l.length
    · rw [List.take_append_of_le_length (by rw [List.length_take]; omega), List.take_take, Nat.min_self]
    · rw [List.take_of_length_le (by simp; omega), show l.length - w = 0 by omega]; simp
  · intro h; simp [clearFrom]; omega

theorem impl_del {k n : Nat} {vals : List Int} (hv : Vok n vals) (l : List Int) (hl : ∀ x ∈ l, 0 ≤ x ∧ x < n) (hk : l.length < k) (hk2 : l.length < 4611686018427387904) : f104 k vals l = some (((), ()), (fz vals l, ())) := by
  unfold f104 f94a
  have idx := fun {ρ : Type} nx => idx_loop (ρ := ρ) k l vals hv hl hk2 nx l 0 rfl k hk
  rcases idx (fun (_ : Unit × Unit) => some (((-1 : Int), ()), ()), fun (x9 : (Int × Unit) × Unit) => some ((x9.1.1, ()), ()), ()) with ⟨e1, e2⟩ | ⟨a, x, b, e1, e2, e3, e4⟩
  · rw [show (0 : Int) = ((0 : Nat) : Int) from rfl, e2, e1]; rfl
  · rw [show (0 : Int) = ((0 : Nat) : Int) from rfl, e4]
    simp only [Option.bind_some, Nat.zero_add]
    rw [show ((a.length : Int) == -1) = false from by simp]
    have hal : a.length < l.length := by rw [e1]; simp
    rw [wr_succ (show a.length < 4611686018427387904 by omega)]
    have hd : l.drop (a.length + 1) = b := by rw [e1, List.drop_append]; simp
    have hbm : ∀ y ∈ b, 0 ≤ y ∧ y < n := fun y hy => hl y (by rw [e1]; exact List.mem_append.2 (.inr (List.mem_cons.2 (.inr hy))))
    obtain ⟨l', w', k1, k2, k3, k4⟩ := del_loop (ρ := (Unit × Unit) × ((List Int) × Unit)) k vals hv
      (fun x14 : ((Unit × Int × Unit) × ((List Int) × Unit)) =>
        bif decide (0 ≤ x14.1.2.1) && decide (x14.1.2.1 ≤ (x14.2.1.length : Int)) then
          bif decide (0 ≤ x14.1.2.1) && decide (x14.1.2.1 ≤ ((clearFrom x14.2.1 x14.1.2.1.toNat 0).length : Int)) then
            let x15 : (List Int) := ((clearFrom x14.2.1 x14.1.2.1.toNat 0).take x14.1.2.1.toNat)
            some (((), ()), (x15, ()))
          else
            none
        else
          none,
      ()) b hbm l a.length (a.length + 1) hk2 hd (by omega) (by omega) k (by have := congrArg List.length e1; simp at this; omega)
    refine Eq.trans ?_ (k1.trans ?_)
    · rfl
    · obtain ⟨c1, c2⟩ := take_clear l' w' 0
      have hc2 := c2 (by omega)
      have hin : (decide (0 ≤ (w' : Int)) && decide ((w' : Int) ≤ (l'.length : Int))) = true := by rw [dle (by omega), dle (by omega)]; rfl
      simp only [Int.toNat_natCast, hc2, hin, cond_true, c1, k4]
      congr 3
      have : l.take a.length = a := by rw [e1]; simp
      rw [this]
      have hfz : fz vals l = fz vals a ++ fz vals b := by
        unfold fz at e2 ⊢
        rw [e1, List.filter_append, List.filter_cons, e3]; rfl
      rw [hfz, e2]

theorem impl_clone {k : Nat} {l : List Int} (hl : l.length ≤ 1048576) : f98 k l = some (((), ()), (l, ())) := by
  unfold f98
  rw [show decide ((([] : List Int).length + l.length) * 8 ≤ roomy) = true from decide_eq_true (by simp [roomy]; omega)]
  rfl

theorem spec_clone {k : Nat} {l : List Int} (hl : l.length ≤ 1048576) : f85 k l = some (((), ()), (l, ())) := by
  unfold f85
  rw [show decide ((([] : List Int).length + l.length) * 8 ≤ roomy) = true from decide_eq_true (by simp [roomy]; omega)]
  rfl

theorem impl_with {k n : Nat} (hk : 5 ≤ k) {r : Ru} {vals : List Int} (hv : Vok n vals) (hr : Rok n r) {v x : Int} (h0 : 0 ≤ v) (h1 : v < n) (hx : x = -1 ∨ x = 0 ∨ x = 1) :
    f97 k r.1 r.2.1 r.2.2 v x vals = some ((hold r (vals.set v.toNat x), ()), (vals, ())) := by
  unfold f97
  obtain ⟨_, e2, _⟩ := vat_some hv h0 h1
  have hb := bndI h0 (show v < (vals.length : Int) by rw [hv.l]; exact h1)
  simp only [hb, cond_true, e2, Option.bind_some, impl_hold hk (hv.set v.toNat hx) hr, List.length_set, List.getElem?_set_self (show v.toNat < vals.length by rw [hv.l]; omega), set_back e2]

/-- What is forced, as the program tells it. -/
def fi (o : Option (Int × Int)) : Int × Int × Bool := match o with
  | some p => (p.1, p.2, true)
  | none => (0, 0, false)

theorem impl_forced {k n : Nat} (hk : 5 ≤ k) {r : Ru} {vals : List Int} (hv : Vok n vals) (hr : Rok n r) : f103 k r.1 r.2.1 r.2.2 vals = some (((fi (fcd r vals)).1, (fi (fcd r vals)).2.1, (fi (fcd r vals)).2.2, ()), (vals, ())) := by
  unfold f103
  have hvl : r.2.1.length ≤ 4 := by have := hr.lv; have := hr.k4; omega
  rw [impl_hold hk hv hr]
  simp only [Option.bind_some]
  unfold fcd
  cases h0 : hold r vals != 0 with
  | true => rfl
  | false =>
    simp only [cond_false]
    have hz : hold r vals = 0 := by simpa using h0
    rw [impl_clone (by omega)]
    simp only [Option.bind_some]
    rw [impl_del hv r.2.1 hr.v (by omega) (by omega)]
    simp only [Option.bind_some]
    rcases pick_fz hr (vals := vals) with ⟨v, e1, _, hm, hvz⟩ | e | ⟨_, a, b, l, e1⟩
    · rw [e1]
      obtain ⟨b0, b1⟩ := hr.v v hm
      obtain ⟨k, rfl⟩ : ∃ q, k = q + 3 := ⟨k - 3, by omega⟩
      rw [show ((([v] : List Int).length : Int) != 1) = false from rfl]
      simp only [cond_false, f103_l7]
      have w1 := impl_with hk hv hr b0 b1 (x := -1) (.inl rfl)
      have w2 := impl_with hk hv hr b0 b1 (x := 1) (.inr (.inr rfl))
      rw [show decide ((0 : Int) < (([1, -1] : List Int).length : Int)) = true from rfl, show (decide (0 ≤ (0 : Int)) && true) = true from rfl,
        show (([1, -1] : List Int)[(0 : Int).toNat]?) = some 1 from rfl]
      simp only [cond_true, Option.bind_some]
      rw [show (decide (0 ≤ (0 : Nat)) && decide ((0 : Int) < (([v] : List Int).length : Int))) = true from rfl, show (([v] : List Int)[0]?) = some v from rfl]
      simp only [cond_true, Option.bind_some]
      rw [show wr .i64 (0 - 1) = -1 from rfl, w1]
      simp only [Option.bind_some]
      cases decide (hold r (vals.set v.toNat (-1)) < 0) with
      | true => rfl
      | false =>
        simp only [cond_false]
        rw [show wr .i64 (0 + 1) = 1 from rfl, show decide ((1 : Int) < (([1, -1] : List Int).length : Int)) = true from rfl, show (decide (0 ≤ (1 : Int)) && true) = true from rfl,
          show (([1, -1] : List Int)[(1 : Int).toNat]?) = some (-1) from rfl]
        simp only [cond_true, Option.bind_some]
        rw [show wr .i64 (0 - -1) = 1 from rfl, w2]
        simp only [Option.bind_some]
        cases decide (hold r (vals.set v.toNat 1) < 0) with
        | true => rfl
        | false =>
          simp only [cond_false]
          rw [show wr .i64 (1 + 1) = 2 from rfl, show decide ((2 : Int) < (([1, -1] : List Int).length : Int)) = false from rfl]
          rfl
    · exfalso
      obtain ⟨v, hm, hvz⟩ := hold_open hv hr hz
      have : v ∈ fz vals r.2.1 := List.mem_filter.2 ⟨hm, by rw [hvz]; rfl⟩
      rw [e] at this; cases this
    · rw [e1, show (((a :: b :: l).length : Int) != 1) = true from by simp; omega]
      rfl

/-- What is forced was open, and is decided. -/
theorem fcd_some {n : Nat} {r : Ru} {vals : List Int} (hr : Rok n r) {v x : Int} (h : fcd r vals = some (v, x)) : 0 ≤ v ∧ v < n ∧ vat vals v = 0 ∧ (x = 1 ∨ x = -1) := by
  unfold fcd at h
  cases h0 : hold r vals != 0 with
  | true => rw [h0] at h; cases h
  | false =>
    rw [h0] at h
    simp only [cond_false] at h
    split at h
    · rename_i u e
      obtain ⟨hm, hz⟩ := fz_mem (vals := vals) (vs := r.2.1) (v := u) (by rw [e]; exact List.mem_singleton.2 rfl)
      obtain ⟨b0, b1⟩ := hr.v u hm
      cases h1 : decide (hold r (vals.set u.toNat (-1)) < 0) with
      | true => rw [h1] at h; injection h with h; injection h with h2 h3; subst h2; subst h3; exact ⟨b0, b1, hz, .inl rfl⟩
      | false =>
        rw [h1] at h
        simp only [cond_false] at h
        cases h2 : decide (hold r (vals.set u.toNat 1) < 0) with
        | true => rw [h2] at h; injection h with h; injection h with h3 h4; subst h3; subst h4; exact ⟨b0, b1, hz, .inr rfl⟩
        | false => rw [h2] at h; cases h
    · cases h
end Go.Proofs.Ytiilgicmdnllbaa.R
