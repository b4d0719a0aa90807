/- Conclusions are drawn on both sides alike. -/
import Derived.Test.YtiilgicmdnllbaaR1SvC
namespace Go.Proofs.Ytiilgicmdnllbaa.R
open Go.Proofs.Ytiilgicmdnllbaa.R1

/-- One round through the rules: the violated one, the values, what was forced. -/
def pass : List Ru → Nat → List Int → Option Nat × List Int × List (Int × (Int × Int))
  | [], _, vals => (none, vals, [])
  | r :: rs, i, vals => bif decide (hold r vals < 0) then (some i, vals, []) else match fcd r vals with
    | some p => ((pass rs (i + 1) (vals.set p.1.toNat p.2)).1, (pass rs (i + 1) (vals.set p.1.toNat p.2)).2.1, ((i : Int), (p.1, p.2)) :: (pass rs (i + 1) (vals.set p.1.toNat p.2)).2.2)
    | none => pass rs (i + 1) vals

def zs (l : List Int) : Nat := (l.filter (· == 0)).length

theorem zs_le (l : List Int) : zs l ≤ l.length := List.length_filter_le _ _

theorem zs_set : ∀ {l : List Int} {i : Nat} {x : Int}, l[i]? = some 0 → x ≠ 0 → zs (l.set i x) + 1 = zs l
  | [], i, x, h, _ => by simp at h
  | y :: l, 0, x, h, hx => by
    simp at h
    subst h
    simp [zs, List.filter_cons, hx]
  | y :: l, i + 1, x, h, hx => by
    simp at h
    have := zs_set h hx
    unfold zs at this ⊢
    simp only [List.set_cons_succ, List.filter_cons]
    cases y == 0
    · exact this
    · simp only [if_true, List.length_cons]; omega

theorem pass_facts {n : Nat} : ∀ {rs : List Ru} {i : Nat} {vals : List Int}, (∀ r ∈ rs, Rok n r) → Vok n vals → Vok n (pass rs i vals).2.1 ∧ zs (pass rs i vals).2.1 + (pass rs i vals).2.2.length = zs vals
  | [], i, vals, _, hv => ⟨hv, rfl⟩
  | r :: rs, i, vals, hr, hv => by
    have hr' : ∀ q ∈ rs, Rok n q := fun q hq => hr q (List.mem_cons.2 (.inr hq))
    unfold pass
    cases decide (hold r vals < 0) with
    | true => exact ⟨hv, rfl⟩
    | false =>
      simp only [cond_false]
      cases e : fcd r vals with
      | none => exact pass_facts hr' hv
      | some p =>
        obtain ⟨v, x⟩ := p
        obtain ⟨b0, b1, b2, b3⟩ := fcd_some (hr r (List.mem_cons.2 (.inl rfl))) e
        obtain ⟨_, e2, _⟩ := vat_some hv b0 b1
        rw [b2] at e2
        have hx : x = -1 ∨ x = 0 ∨ x = 1 := by rcases b3 with h | h <;> simp [h]
        obtain ⟨i1, i2⟩ := pass_facts (i := i + 1) hr' (hv.set v.toNat hx)
        refine ⟨i1, ?_⟩
        have := zs_set e2 (x := x) (by rcases b3 with h | h <;> omega)
        simp only [List.length_cons]
        omega

/-- What a chain of conclusions is: each variable was open, and its other value violates the rule. -/
def Chain (n : Nat) (rules : List Ru) : List Int → List (Int × (Int × Int)) → List Int → Prop
  | vals, [], w => w = vals
  | vals, p :: st, w => (∃ (i : Nat) (r : Ru), p.1 = (i : Int) ∧ rules[i]? = some r ∧ hold r (vals.set p.2.1.toNat (-p.2.2)) < 0) ∧ (0 ≤ p.2.1 ∧ p.2.1 < n ∧ vat vals p.2.1 = 0 ∧ (p.2.2 = 1 ∨ p.2.2 = -1)) ∧ Chain n rules (vals.set p.2.1.toNat p.2.2) st w

/-- How conclusions end. -/
def Stop (rules : List Ru) (bad : Int) (w : List Int) : Prop := (bad = -1 ∧ ∀ r ∈ rules, 0 ≤ hold r w) ∨ ∃ (i : Nat) (r : Ru), bad = (i : Int) ∧ rules[i]? = some r ∧ hold r w < 0

theorem Chain.append {n : Nat} {rules : List Ru} : ∀ {vals : List Int} {st : List (Int × (Int × Int))} {w : List Int} {st2 : List (Int × (Int × Int))} {w2 : List Int}, Chain n rules vals st w → Chain n rules w st2 w2 → Chain n rules vals (st ++ st2) w2
  | vals, [], w, st2, w2, h, h2 => by cases h; exact h2
  | vals, p :: st, w, st2, w2, ⟨h1, h2, h3⟩, h4 => ⟨h1, h2, h3.append h4⟩

theorem fcd_why {r : Ru} {vals : List Int} {v x : Int} (h : fcd r vals = some (v, x)) : hold r (vals.set v.toNat (-x)) < 0 := by
  unfold fcd at h
  cases h0 : hold r vals != 0 with
  | true => rw [h0] at h; cases h
  | false =>
    rw [h0] at h
    simp only [cond_false] at h
    split at h
    · cases h1 : decide (hold r (vals.set (_ : Int).toNat (-1)) < 0) with
      | true => rw [h1] at h; simp only [cond_true, Option.some.injEq, Prod.mk.injEq] at h; obtain ⟨rfl, rfl⟩ := h; exact of_decide_eq_true h1
      | false =>
        rw [h1] at h
        simp only [cond_false] at h
        cases h2 : decide (hold r (vals.set (_ : Int).toNat 1) < 0) with
        | true => rw [h2] at h; simp only [cond_true, Option.some.injEq, Prod.mk.injEq] at h; obtain ⟨rfl, rfl⟩ := h; exact of_decide_eq_true h2
        | false => rw [h2] at h; cases h
    · cases h

theorem pass_chain {n : Nat} (rules : List Ru) (hR : ∀ r ∈ rules, Rok n r) : ∀ (rest : List Ru) (i : Nat) (vals : List Int), rules.drop i = rest → Chain n rules vals (pass rest i vals).2.2 (pass rest i vals).2.1 ∧
    (∀ b, (pass rest i vals).1 = some b → ∃ r, rules[b]? = some r ∧ hold r (pass rest i vals).2.1 < 0) ∧ ((pass rest i vals).1 = none → (pass rest i vals).2.2 = [] → (pass rest i vals).2.1 = vals ∧ ∀ r ∈ rest, 0 ≤ hold r vals)
  | [], i, vals, h => ⟨rfl, fun b h => (by cases h), fun _ _ => ⟨rfl, fun r hr => (by cases hr)⟩⟩
  | r :: rest, i, vals, h => by
    unfold pass
    cases h0 : decide (hold r vals < 0) with
    | true =>
      simp only [cond_true]
      exact ⟨rfl, fun b hb => by cases hb; exact ⟨r, at_cons h, of_decide_eq_true h0⟩, fun h => (by cases h)⟩
    | false =>
      have h1 := of_decide_eq_false h0
      simp only [cond_false]
      cases e : fcd r vals with
      | none =>
        obtain ⟨i1, i2, i3⟩ := pass_chain rules hR rest (i + 1) vals (next_cons h)
        refine ⟨i1, i2, fun q1 q2 => ?_⟩
        obtain ⟨j1, j2⟩ := i3 q1 q2
        refine ⟨j1, fun q hq => ?_⟩
        rcases List.mem_cons.1 hq with rfl | hq
        · omega
        · exact j2 q hq
      | some p =>
        obtain ⟨v, x⟩ := p
        obtain ⟨i1, i2, i3⟩ := pass_chain rules hR rest (i + 1) (vals.set v.toNat x) (next_cons h)
        exact ⟨⟨⟨i, r, rfl, at_cons h, fcd_why e⟩, fcd_some (hR r (List.mem_of_getElem? (at_cons h))) e, i1⟩, i2, fun _ q => (by cases q)⟩

theorem spec_pass {ρ : Type} {k n : Nat} (hk : 5 ≤ k) (rules : List Ru) (hR : ∀ r ∈ rules, Rok n r) (hl : rules.length ≤ 3000) (nx) : ∀ (rest : List Ru) (i : Nat), rules.drop i = rest → ∀ (vals : List Int) (st0 : List (Int × (Int × Int))) (ch : Bool), Vok n vals → st0.length + zs vals ≤ 200 → ∀ j, rest.length < j →
    f83_l4 (ρ := ρ) k j rules ch (i : Int) vals st0 nx = match (pass rest i vals).1 with
      | some b => nx.2.1 (((), (b : Int), ()), ((pass rest i vals).2.1, st0 ++ (pass rest i vals).2.2, ()))
      | none => nx.1 ((rules, (), (), ch || !(pass rest i vals).2.2.isEmpty, ()), ((pass rest i vals).2.1, st0 ++ (pass rest i vals).2.2, ()))
  | [], i, h, vals, st0, ch, hv, hs, j, hj => by
    obtain ⟨j, rfl⟩ : ∃ q, j = q + 1 := ⟨j - 1, by simp at hj; omega⟩
    simp only [f83_l4, out_nil h, cond_false, pass, List.isEmpty_nil, Bool.not_true, Bool.or_false, List.append_nil]
  | r :: rest, i, h, vals, st0, ch, hv, hs, j, hj => by
    obtain ⟨j, rfl⟩ : ∃ q, j = q + 1 := ⟨j - 1, by simp at hj; omega⟩
    have hlt := lt_cons h
    have hr := hR r (List.mem_of_getElem? (at_cons h))
    simp only [f83_l4, in_cons h, cond_true, getI_cons h, Option.bind_some, spec_hold hk hv hr, spec_forced hk hv hr, wr_succ (show i < 4611686018427387904 by omega), pass]
    cases decide (hold r vals < 0) with
    | true => simp only [cond_true, List.append_nil]
    | false =>
      simp only [cond_false]
      cases e : fcd r vals with
      | none =>
        rw [show decide ((fs none).1 ≥ 0) = false from rfl]
        simp only [cond_false]
        exact spec_pass hk rules hR hl nx rest (i + 1) (next_cons h) vals st0 ch hv hs j (by simpa using hj)
      | some p =>
        obtain ⟨v, x⟩ := p
        obtain ⟨b0, b1, b2, b3⟩ := fcd_some hr e
        obtain ⟨_, e2, _⟩ := vat_some hv b0 b1
        rw [b2] at e2
        have hx : x = -1 ∨ x = 0 ∨ x = 1 := by rcases b3 with h | h <;> simp [h]
        have hz := zs_set e2 (x := x) (by rcases b3 with h | h <;> omega)
        have hb := bndI b0 (show v < (vals.length : Int) by rw [hv.l]; exact b1)
        have ih := spec_pass hk rules hR hl nx rest (i + 1) (next_cons h) (vals.set v.toNat x) (st0 ++ [((i : Int), (v, x))]) true (hv.set v.toNat hx) (by rw [List.length_append, List.length_singleton]; omega) j (by simpa using hj)
        rw [show decide ((fs (some (v, x))).1 ≥ 0) = true from decide_eq_true b0]
        simp only [cond_true]
        rw [show decide ((fs (some (v, x))).1 < (vals.length : Int)) = true from dlt (show v < (vals.length : Int) by rw [hv.l]; exact b1)]
        simp only [Bool.and_self, fs, cond_true, e2, Option.bind_some]
        rw [show decide ((st0.length + [((i : Int), (v, x))].length) * 24 ≤ roomy) = true from decide_eq_true (by simp only [List.length_singleton, roomy]; omega)]
        simp only [cond_true]
        rw [ih]
        cases (pass rest (i + 1) (vals.set v.toNat x)).1 <;> simp

/-- A node of a refutation for what was forced. -/
def nd (p : Int × (Int × Int)) : Int × (Int × (Int × Int)) := (2, (p.2.1, (p.2.2, p.1)))

theorem impl_pass {ρ : Type} {k n : Nat} (hk : 5 ≤ k) (rules : List Ru) (hR : ∀ r ∈ rules, Rok n r) (hl : rules.length ≤ 3000) (a1 : List Ru) (a2 a3 a4 : Int) (a5 : List (List Int)) (nx) : ∀ (rest : List Ru) (i : Nat), rules.drop i = rest → ∀ (vals : List Int) (ch : Bool), Vok n vals → ∀ j, rest.length < j →
    f100_l5 (ρ := ρ) k j rules ch rules (rules.length : Int) (i : Int) vals a1 a2 a3 a4 a5 nx = match (pass rest i vals).1 with
      | some b => nx.2.1 (((b : Int), ()), ((pass rest i vals).2.1, ((), ()), (a1, a2, a3, (((), ()), a4), (), ()), ((), ()), a5, ()))
      | none => nx.1 ((rules, (), ((), ()), ch || !(pass rest i vals).2.2.isEmpty, ()), ((pass rest i vals).2.1, ((), ()), (a1, a2, a3, (((), ()), a4), (), ()), ((), ()), a5, ()))
  | [], i, h, vals, ch, hv, j, hj => by
    obtain ⟨j, rfl⟩ : ∃ q, j = q + 1 := ⟨j - 1, by simp at hj; omega⟩
    simp only [f100_l5, out_nil h, cond_false, pass, List.isEmpty_nil, Bool.not_true, Bool.or_false]
  | r :: rest, i, h, vals, ch, hv, j, hj => by
    obtain ⟨j, rfl⟩ : ∃ q, j = q + 1 := ⟨j - 1, by simp at hj; omega⟩
    have hlt := lt_cons h
    have hr := hR r (List.mem_of_getElem? (at_cons h))
    simp only [f100_l5, in_cons h, cond_true, getI_cons h, Option.bind_some, impl_hold hk hv hr, impl_forced hk hv hr, wr_succ (show i < 4611686018427387904 by omega), pass]
    cases decide (hold r vals < 0) with
    | true => simp only [cond_true]
    | false =>
      simp only [cond_false]
      cases e : fcd r vals with
      | none =>
        simp only [fi, cond_false]
        exact impl_pass hk rules hR hl a1 a2 a3 a4 a5 nx rest (i + 1) (next_cons h) vals ch hv j (by simpa using hj)
      | some p =>
        obtain ⟨v, x⟩ := p
        obtain ⟨b0, b1, b2, b3⟩ := fcd_some hr e
        obtain ⟨_, e2, _⟩ := vat_some hv b0 b1
        have hx : x = -1 ∨ x = 0 ∨ x = 1 := by rcases b3 with h | h <;> simp [h]
        have hb := bndI b0 (show v < (vals.length : Int) by rw [hv.l]; exact b1)
        have ih := impl_pass hk rules hR hl a1 a2 a3 a4 a5 nx rest (i + 1) (next_cons h) (vals.set v.toNat x) true (hv.set v.toNat hx) j (by simpa using hj)
        simp only [show (fi (some (v, x))).2.2 = true from rfl, cond_true]
        rw [show (decide (0 ≤ (fi (some (v, x))).1) && decide ((fi (some (v, x))).1 < (vals.length : Int))) = true from hb]
        simp only [fi, cond_true, e2, Option.bind_some, f101, f71]
        rw [ih]
        cases (pass rest (i + 1) (vals.set v.toNat x)).1 <;> simp

theorem impl_tell {k : Nat} {a b c d : Int} {l : List (Int × (Int × (Int × Int)))} (hl : l.length ≤ 1099511627776) : f86 k a b c d l = some ((), (((), ()), (l ++ [(a, (b, (c, d)))], ()))) := by
  unfold f86
  rw [show decide ((l.length + [(a, (b, (c, d)))].length) * 32 ≤ roomy) = true from decide_eq_true (by simp only [List.length_singleton, roomy]; omega)]
  rfl

theorem impl_pass2 {ρ : Type} {k n : Nat} (hk : 5 ≤ k) (rules : List Ru) (hR : ∀ r ∈ rules, Rok n r) (hl : rules.length ≤ 3000) (a1 : List Ru) (a2 a3 : Int) (a4 : Bool) (nx) : ∀ (rest : List Ru) (i : Nat), rules.drop i = rest → ∀ (vals : List Int) (ch : Bool) (a5 : List (Int × (Int × (Int × Int)))), Vok n vals → a5.length + zs vals ≤ 1099511627776 → ∀ j, rest.length < j →
    f100a_l5 (ρ := ρ) k j rules ch rules (rules.length : Int) (i : Int) vals a1 a2 a3 a4 a5 nx = match (pass rest i vals).1 with
      | some b => nx.2.1 (((b : Int), ()), ((pass rest i vals).2.1, ((), ()), (a1, a2, a3, ((), ()), ((), ()), ()), (a4, ()), ((), ()), a5 ++ (pass rest i vals).2.2.map nd, ()))
      | none => nx.1 ((rules, (), ((), ()), ch || !(pass rest i vals).2.2.isEmpty, ()), ((pass rest i vals).2.1, ((), ()), (a1, a2, a3, ((), ()), ((), ()), ()), (a4, ()), ((), ()), a5 ++ (pass rest i vals).2.2.map nd, ()))
  | [], i, h, vals, ch, a5, hv, hs, j, hj => by
    obtain ⟨j, rfl⟩ : ∃ q, j = q + 1 := ⟨j - 1, by simp at hj; omega⟩
    simp only [f100a_l5, out_nil h, cond_false, pass, List.isEmpty_nil, Bool.not_true, Bool.or_false, List.map_nil, List.append_nil]
  | r :: rest, i, h, vals, ch, a5, hv, hs, j, hj => by
    obtain ⟨j, rfl⟩ : ∃ q, j = q + 1 := ⟨j - 1, by simp at hj; omega⟩
    have hlt := lt_cons h
    have hr := hR r (List.mem_of_getElem? (at_cons h))
    simp only [f100a_l5, in_cons h, cond_true, getI_cons h, Option.bind_some, impl_hold hk hv hr, impl_forced hk hv hr, wr_succ (show i < 4611686018427387904 by omega), pass]
    cases decide (hold r vals < 0) with
    | true => simp only [cond_true, List.map_nil, List.append_nil]
    | false =>
      simp only [cond_false]
      cases e : fcd r vals with
      | none =>
        simp only [fi, cond_false]
        exact impl_pass2 hk rules hR hl a1 a2 a3 a4 nx rest (i + 1) (next_cons h) vals ch a5 hv hs j (by simpa using hj)
      | some p =>
        obtain ⟨v, x⟩ := p
        obtain ⟨b0, b1, b2, b3⟩ := fcd_some hr e
        obtain ⟨_, e2, _⟩ := vat_some hv b0 b1
        have e3 := e2
        rw [b2] at e3
        have hx : x = -1 ∨ x = 0 ∨ x = 1 := by rcases b3 with h | h <;> simp [h]
        have hz := zs_set e3 (x := x) (by rcases b3 with h | h <;> omega)
        have hb := bndI b0 (show v < (vals.length : Int) by rw [hv.l]; exact b1)
        have ih := impl_pass2 hk rules hR hl a1 a2 a3 a4 nx rest (i + 1) (next_cons h) (vals.set v.toNat x) true (a5 ++ [(2, (v, (x, (i : Int))))]) (hv.set v.toNat hx) (by rw [List.length_append, List.length_singleton]; omega) j (by simpa using hj)
        simp only [show (fi (some (v, x))).2.2 = true from rfl, cond_true]
        rw [show (decide (0 ≤ (fi (some (v, x))).1) && decide ((fi (some (v, x))).1 < (vals.length : Int))) = true from hb]
        simp only [fi, cond_true, e2, Option.bind_some, f101a]
        rw [impl_tell (by omega)]
        simp only [Option.bind_some]
        rw [ih]
        cases (pass rest (i + 1) (vals.set v.toNat x)).1 <;> simp [nd]

/-- The conclusions, on all sides. -/
theorem props_loop {n : Nat} (rules : List Ru) (hR : ∀ r ∈ rules, Rok n r) (hl : rules.length ≤ 3000) : ∀ (m : Nat) (vals : List Int), Vok n vals → zs vals < m →
    ∃ (bad : Int) (vals' : List Int) (st : List (Int × (Int × Int))), -1 ≤ bad ∧ Vok n vals' ∧ zs vals' + st.length = zs vals ∧
      (∀ {ρ : Type} (k j : Nat) (st0 : List (Int × (Int × Int))) (nx), 3002 ≤ k → m < j → st0.length + zs vals ≤ 200 → f83_l2 (ρ := ρ) k j rules vals st0 nx = nx.1 (((), bad, ()), (vals', st0 ++ st, ()))) ∧
      (∀ {ρ : Type} (k j : Nat) (a1 : List Ru) (a2 a3 a4 : Int) (a5 : List (List Int)) (nx), 3002 ≤ k → m < j → f100_l2 (ρ := ρ) k j rules true vals a1 a2 a3 a4 a5 nx =
        bif decide (0 ≤ bad) then nx.2.1 ((bad, ()), (vals', ((), ()), (a1, a2, a3, (((), ()), a4), (), ()), ((), ()), a5, ())) else nx.1 ((), (vals', ((), ()), (a1, a2, a3, (((), ()), a4), (), ()), ((), ()), a5, ()))) ∧
      (∀ {ρ : Type} (k j : Nat) (a1 : List Ru) (a2 a3 : Int) (a4 : Bool) (a5 : List (Int × (Int × (Int × Int)))) (nx), 3002 ≤ k → m < j → a5.length + zs vals ≤ 1099511627776 → f100a_l2 (ρ := ρ) k j rules true vals a1 a2 a3 a4 a5 nx =
        bif decide (0 ≤ bad) then nx.2.1 ((bad, ()), (vals', ((), ()), (a1, a2, a3, ((), ()), ((), ()), ()), (a4, ()), ((), ()), a5 ++ st.map nd, ())) else nx.1 ((), (vals', ((), ()), (a1, a2, a3, ((), ()), ((), ()), ()), (a4, ()), ((), ()), a5 ++ st.map nd, ()))) ∧ (bad = -1 ∨ 0 ≤ bad) ∧ Chain n rules vals st vals' ∧ Stop rules bad vals'
  | 0, vals, hv, hz => by omega
  | m + 1, vals, hv, hz => by
    obtain ⟨p1, p2⟩ := pass_facts (i := 0) hR hv
    have S1 := fun {ρ : Type} (k : Nat) (st0) (nx) (hk : 3002 ≤ k) (hs : st0.length + zs vals ≤ 200) => spec_pass (ρ := ρ) (k := k) (by omega) rules hR hl nx rules 0 rfl vals st0 false hv hs k (by omega)
    have I1 := fun {ρ : Type} (k : Nat) (a1 a2 a3 a4 a5) (nx) (hk : 3002 ≤ k) => impl_pass (ρ := ρ) (k := k) (by omega) rules hR hl a1 a2 a3 a4 a5 nx rules 0 rfl vals false hv k (by omega)
    have J1 := fun {ρ : Type} (k : Nat) (a1 a2 a3 a4 a5) (nx) (hk : 3002 ≤ k) (hs : a5.length + zs vals ≤ 1099511627776) => impl_pass2 (ρ := ρ) (k := k) (by omega) rules hR hl a1 a2 a3 a4 nx rules 0 rfl vals false a5 hv hs k (by omega)
    have P1 := pass_chain rules hR rules 0 vals rfl
    generalize pass rules 0 vals = q at p1 p2 S1 I1 J1 P1
    obtain ⟨b, vals1, st1⟩ := q
    obtain ⟨P1, P2, P3⟩ := P1
    cases b with
    | some b =>
      refine ⟨(b : Int), vals1, st1, by omega, p1, p2, fun k j st0 nx hk hj hs => ?_, fun k j a1 a2 a3 a4 a5 nx hk hj => ?_, fun k j a1 a2 a3 a4 a5 nx hk hj hs => ?_, .inr (by omega), P1, .inr (by obtain ⟨r, r1, r2⟩ := P2 b rfl; exact ⟨b, r, rfl, r1, r2⟩)⟩
      · obtain ⟨j, rfl⟩ : ∃ q, j = q + 1 := ⟨j - 1, by omega⟩
        simp only [f83_l2]
        exact S1 k st0 _ hk hs
      · obtain ⟨j, rfl⟩ : ∃ q, j = q + 1 := ⟨j - 1, by omega⟩
        simp only [f100_l2, cond_true]
        rw [show decide ((0 : Int) ≤ (b : Int)) = true from dle (by omega)]
        exact I1 k a1 a2 a3 a4 a5 _ hk
      · obtain ⟨j, rfl⟩ : ∃ q, j = q + 1 := ⟨j - 1, by omega⟩
        simp only [f100a_l2, cond_true]
        rw [show decide ((0 : Int) ≤ (b : Int)) = true from dle (by omega)]
        exact J1 k a1 a2 a3 a4 a5 _ hk hs
    | none =>
      cases st1 with
      | nil =>
        refine ⟨-1, vals1, [], by omega, p1, p2, fun k j st0 nx hk hj hs => ?_, fun k j a1 a2 a3 a4 a5 nx hk hj => ?_, fun k j a1 a2 a3 a4 a5 nx hk hj hs => ?_, .inl rfl, P1, .inl ⟨rfl, by obtain ⟨q1, q2⟩ := P3 rfl rfl; exact fun r hr => by rw [show vals1 = vals from q1]; exact q2 r hr⟩⟩
        · obtain ⟨j, rfl⟩ : ∃ q, j = q + 1 := ⟨j - 1, by omega⟩
          simp only [f83_l2]
          exact S1 k st0 _ hk hs
        · obtain ⟨j, rfl⟩ : ∃ q, j = q + 2 := ⟨j - 2, by omega⟩
          simp only [f100_l2, cond_true]
          refine (I1 k a1 a2 a3 a4 a5 _ hk).trans ?_
          rfl
        · obtain ⟨j, rfl⟩ : ∃ q, j = q + 2 := ⟨j - 2, by omega⟩
          simp only [f100a_l2, cond_true]
          refine (J1 k a1 a2 a3 a4 a5 _ hk hs).trans ?_
          rfl
      | cons p st1 =>
        simp only [List.length_cons] at p2
        obtain ⟨bad, vals2, st2, c1, c2, c3, c4, c5, c6, c7, c8, c9⟩ := props_loop rules hR hl m vals1 p1 (by omega)
        refine ⟨bad, vals2, (p :: st1) ++ st2, c1, c2, by simp only [List.length_append, List.length_cons]; omega, fun k j st0 nx hk hj hs => ?_, fun k j a1 a2 a3 a4 a5 nx hk hj => ?_, fun k j a1 a2 a3 a4 a5 nx hk hj hs => ?_, c7, P1.append c8, c9⟩
        · obtain ⟨j, rfl⟩ : ∃ q, j = q + 1 := ⟨j - 1, by omega⟩
          simp only [f83_l2]
          refine (S1 k st0 _ hk hs).trans ?_
          have := c4 k j (st0 ++ p :: st1) nx hk (by omega) (by simp only [List.length_append, List.length_cons]; omega)
          rw [List.append_assoc] at this
          exact this
        · obtain ⟨j, rfl⟩ : ∃ q, j = q + 1 := ⟨j - 1, by omega⟩
          simp only [f100_l2, cond_true]
          refine (I1 k a1 a2 a3 a4 a5 _ hk).trans ?_
          exact c5 k j a1 a2 a3 a4 a5 nx hk (by omega)
        · obtain ⟨j, rfl⟩ : ∃ q, j = q + 1 := ⟨j - 1, by omega⟩
          simp only [f100a_l2, cond_true]
          refine (J1 k a1 a2 a3 a4 a5 _ hk hs).trans ?_
          have := c6 k j a1 a2 a3 a4 (a5 ++ (p :: st1).map nd) nx hk (by omega) (by simp only [List.length_append, List.length_map, List.length_cons]; omega)
          rw [List.append_assoc, ← List.map_append] at this
          exact this

theorem props {n : Nat} (hn : n ≤ 200) (rules : List Ru) (hR : ∀ r ∈ rules, Rok n r) (hl : rules.length ≤ 3000) (vals : List Int) (hv : Vok n vals) :
    ∃ (bad : Int) (vals' : List Int) (st : List (Int × (Int × Int))), Vok n vals' ∧ zs vals' + st.length = zs vals ∧ ((bad = -1 ∨ 0 ≤ bad) ∧ Chain n rules vals st vals' ∧ Stop rules bad vals') ∧ ∀ k, 3300 ≤ k →
      f83 k rules vals = some (((), bad, ()), (vals', st, ())) ∧
      (∀ a1 a2 a3 a4 a5, f100 k rules vals a1 a2 a3 a4 a5 = some ((bad, ()), (vals', ((), ()), (a1, a2, a3, (((), ()), a4), (), ()), ((), ()), a5, ()))) ∧
      (∀ a1 a2 a3 a4 a5, a5.length ≤ 549755813888 → f100a k rules vals a1 a2 a3 a4 a5 = some ((bad, ()), (vals', ((), ()), (a1, a2, a3, ((), ()), ((), ()), ()), (a4, ()), ((), ()), a5 ++ st.map nd, ()))) := by
  have hz := zs_le vals
  rw [hv.l] at hz
  obtain ⟨bad, vals', st, c1, c2, c3, c4, c5, c6, c7, c8, c9⟩ := props_loop rules hR hl (zs vals + 1) vals hv (by omega)
  refine ⟨bad, vals', st, c2, c3, ⟨c7, c8, c9⟩, fun k hk => ⟨?_, fun a1 a2 a3 a4 a5 => ?_, fun a1 a2 a3 a4 a5 h5 => ?_⟩⟩
  · unfold f83
    exact c4 k k [] _ (by omega) (by omega) (by simp; omega)
  · unfold f100
    refine (c5 k k a1 a2 a3 a4 a5 _ (by omega) (by omega)).trans ?_
    rcases c7 with rfl | h
    · rfl
    · rw [dle h]; rfl
  · unfold f100a
    refine (c6 k k a1 a2 a3 a4 a5 _ (by omega) (by omega) (by omega)).trans ?_
    rcases c7 with rfl | h
    · rfl
    · rw [dle h]; rfl
end Go.Proofs.Ytiilgicmdnllbaa.R
