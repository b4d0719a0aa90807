/- Refutations are accepted, and what is accepted is one. -/
import Derived.Test.YtiilgicmdnllbaaR1SvI
import Derived.Test.YtiilgicmdnllbaaR1SvK
namespace Go.Proofs.Ytiilgicmdnllbaa.R
open Go.Proofs.Ytiilgicmdnllbaa.R1

theorem sub_one {α : Type} (a : α) (t : List α) : sub (a :: t) 1 (((a :: t).length : Nat) : Int) = t := by
  unfold sub
  simp

def inR (rules : List Ru) (r : Int) : Bool := decide (0 ≤ r) && decide (r ≤ (rules.length : Int) - 1)
def isF (n : Nat) (vals : List Int) (v : Int) : Bool := decide (0 ≤ v) && decide (v < (n : Int)) && (vat vals v == 0)

theorem isF_true {n : Nat} {vals : List Int} {v : Int} (h : isF n vals v = true) : 0 ≤ v ∧ v < n ∧ vat vals v = 0 := by
  unfold isF at h
  simp only [Bool.and_eq_true, decide_eq_true_eq, beq_iff_eq] at h
  exact ⟨h.1.1, h.1.2, h.2⟩

theorem inR_true {rules : List Ru} {r : Int} (h : inR rules r = true) : ∃ (i : Nat) (q : Ru), r = (i : Int) ∧ rules[i]? = some q := by
  unfold inR at h
  simp only [Bool.and_eq_true, decide_eq_true_eq] at h
  exact ⟨r.toNat, rules[r.toNat]'(by omega), by omega, List.getElem?_eq_getElem (by omega)⟩

abbrev RefK := (((List (Int × (Int × (Int × Int)))) × Bool × Unit) × ((List Int) × Unit)) → Option (((List (Int × (Int × (Int × Int)))) × Bool × Unit) × ((List Int) × Unit))

theorem ref_cons {n k : Nat} (hn : n ≤ 200) {rules : List Ru} (hl : rules.length ≤ 3000) {vals : List Int} (hv : Vok n vals) (a : Nd) (t : List Nd) :
    f88 (k + 1) rules (a :: t) vals = f88_j6 (f88 k) k rules t (inR rules a.2.2.2) (isF n vals a.2.1) vals a.1 a.2.1 a.2.2.1 a.2.2.2 ((fun x67 => some ((x67.1.1, x67.1.2.1, ()), (x67.2.1, ())) : RefK), ()) := by
  have hvl := hv.l
  rw [f88]
  rw [show ((((a :: t).length : Nat) : Int) == 0) = false by rw [beq_eq_false_iff_ne, List.length_cons]; omega]
  rw [show getI (a :: t) 0 = some a from rfl, show (decide ((0 : Nat) ≤ 1) && decide ((1 : Int) ≤ (((a :: t).length : Nat) : Int)) && decide ((((a :: t).length : Nat) : Int) ≤ (((a :: t).length : Nat) : Int))) = true by
    rw [dle (show (1 : Int) ≤ (((a :: t).length : Nat) : Int) by rw [List.length_cons]; omega), dle (Int.le_refl _)]; rfl]
  rw [sub_one]
  unfold f96
  simp only [cond_false, cond_true, Option.bind_some, impl_in, f48, hvl]
  rw [wr_id (x := (rules.length : Int) - 1) (by omega) (by omega), wr_id (x := (n : Int) - 1) (by omega) (by omega)]
  by_cases h : 0 ≤ a.2.1 ∧ a.2.1 < n
  · obtain ⟨h0, h1⟩ := h
    obtain ⟨_, e2, _⟩ := vat_some hv h0 h1
    have e : isF n vals a.2.1 = (vat vals a.2.1 == 0) := by unfold isF; rw [dle h0, dlt h1]; rfl
    rw [dle h0, dle (show a.2.1 ≤ (n : Int) - 1 by omega), dlt (show a.2.1 < (n : Int) from h1), e2, e]
    rfl
  · have e : isF n vals a.2.1 = false := by
      cases q : isF n vals a.2.1 with
      | false => rfl
      | true => have := isF_true q; exact absurd ⟨this.1, this.2.1⟩ h
    rw [e, show (decide (0 ≤ a.2.1) && decide (a.2.1 ≤ (n : Int) - 1)) = false by
      rw [Bool.and_eq_false_iff, decide_eq_false_iff_not, decide_eq_false_iff_not]; omega]
    rfl

theorem impl_unit1 (k : Nat) (x : Int) : f78 k x = some ((x == 1 || x == -1, ()), ()) := by
  unfold f78
  cases x == 1 <;> rfl

/-- A node of a conclusion. -/
theorem ref_force {n k : Nat} (hn : n ≤ 200) (hk : 5 ≤ k) {rules : List Ru} (hR : ∀ r ∈ rules, Rok n r) (hl : rules.length ≤ 3000) {vals : List Int} (hv : Vok n vals) {v x r : Int} (t : List Nd) :
    (∃ w, f88 (k + 1) rules ((2, (v, (x, r))) :: t) vals = some (([], false, ()), (w, ()))) ∨
    ((∃ (i : Nat) (q : Ru), r = (i : Int) ∧ rules[i]? = some q ∧ hold q (vals.set v.toNat (-x)) < 0) ∧ (0 ≤ v ∧ v < n ∧ vat vals v = 0) ∧ (x = 1 ∨ x = -1) ∧
      f88 (k + 1) rules ((2, (v, (x, r))) :: t) vals = (f88 k rules t (vals.set v.toNat x)).bind fun x114 => some ((x114.1.1, x114.1.2.1, ()), (x114.2.1, ()))) := by
  rw [ref_cons hn hl hv]
  unfold f88_j6
  rw [show ((2 : Int) == 3) = false from rfl, show ((2 : Int) == 2) = true from rfl]
  simp only [cond_false, cond_true]
  cases hF : isF n vals v with
  | false => exact .inl ⟨vals, rfl⟩
  | true =>
    obtain ⟨v0, v1, v2⟩ := isF_true hF
    obtain ⟨_, e2, _⟩ := vat_some hv v0 v1
    cases hI : inR rules r with
    | false => exact .inl ⟨vals, rfl⟩
    | true =>
      obtain ⟨i, q, hi, hq⟩ := inR_true hI
      subst hi
      simp only [Bool.not_true, cond_false, impl_unit1, Option.bind_some, getI_nat, hq]
      cases hU : (x == 1 || x == -1) with
      | false => exact .inl ⟨vals, rfl⟩
      | true =>
        have hx : x = 1 ∨ x = -1 := by simpa using hU
        have hw : wr .i64 (0 - x) = -x := by rw [wr_id (by omega) (by omega)]; omega
        have hb := bndI v0 (show v < (vals.length : Int) by rw [hv.l]; exact v1)
        simp only [Bool.not_true, cond_false, hw, impl_with hk hv (hR q (List.mem_of_getElem? hq)) v0 v1 (show -x = -1 ∨ -x = 0 ∨ -x = 1 by omega), Option.bind_some, hb, cond_true, e2]
        by_cases hh : hold q (vals.set v.toNat (-x)) ≥ 0
        · rw [show decide (hold q (vals.set v.toNat (-x)) ≥ 0) = true from decide_eq_true hh]
          exact .inl ⟨vals, rfl⟩
        · rw [show decide (hold q (vals.set v.toNat (-x)) ≥ 0) = false from decide_eq_false hh]
          refine .inr ⟨⟨i, q, rfl, hq, by omega⟩, ⟨v0, v1, v2⟩, hx, ?_⟩
          simp only [cond_false, Option.bind_assoc, Option.bind_some]

/-- A node of a branch. -/
theorem ref_branch {n k : Nat} (hn : n ≤ 200) (hk : 5 ≤ k) {rules : List Ru} (hl : rules.length ≤ 3000) {vals : List Int} (hv : Vok n vals) {v x r : Int} (t : List Nd)
    (p1 p2 : (List Nd → Option ((List Nd × Bool × Unit) × (List Int × Unit)))) (hp1 : ∀ t, f88 k rules t (vals.set v.toNat 1) = p1 t) (hp2 : ∀ t, f88 k rules t (vals.set v.toNat (-1)) = p2 t) :
    (f88 (k + 1) rules ((1, (v, (x, r))) :: t) vals = some (([], false, ()), (vals, ()))) ∨
    ((0 ≤ v ∧ v < n ∧ vat vals v = 0) ∧
      f88 (k + 1) rules ((1, (v, (x, r))) :: t) vals = (p1 t).bind fun a => bif !a.1.2.1 then some (([], false, ()), (vals, ())) else (p2 a.1.1).bind fun b => bif !b.1.2.1 then some (([], false, ()), (vals, ())) else some ((b.1.1, true, ()), (vals, ()))) := by
  rw [ref_cons hn hl hv]
  unfold f88_j6
  rw [show ((1 : Int) == 3) = false from rfl, show ((1 : Int) == 2) = false from rfl, show ((1 : Int) == 1) = true from rfl]
  simp only [cond_false, beq_self_eq_true, Bool.true_and]
  cases hF : isF n vals v with
  | false => exact .inl rfl
  | true =>
    obtain ⟨v0, v1, v2⟩ := isF_true hF
    obtain ⟨_, e2, _⟩ := vat_some hv v0 v1
    have hb := bndI v0 (show v < (vals.length : Int) by rw [hv.l]; exact v1)
    have hlen : vals.length ≤ 1048576 := by rw [hv.l]; omega
    simp only [Bool.not_true, cond_false, Bool.and_true]
    cases hX : (x == 0 && r == 0) with
    | false => exact .inl rfl
    | true =>
      refine .inr ⟨⟨v0, v1, v2⟩, ?_⟩
      obtain ⟨k, rfl⟩ : ∃ q, k = q + 3 := ⟨k - 3, by omega⟩
      simp only [Bool.not_true, cond_false]
      rw [f88_l18]
      rw [show decide ((0 : Int) < (([1, -1] : List Int).length : Int)) = true from rfl, show (decide (0 ≤ (0 : Int)) && true) = true from rfl, show (([1, -1] : List Int)[(0 : Int).toNat]?) = some 1 from rfl]
      simp only [cond_true, Option.bind_some, impl_clone hlen, hb, e2, hp1]
      cases p1 t with
      | none => rfl
      | some a =>
        simp only [Option.bind_some]
        cases a.1.2.1 with
        | false => rfl
        | true =>
          simp only [Bool.not_true, cond_false]
          rw [show wr .i64 (0 + 1) = 1 from rfl, f88_l18]
          rw [show decide ((1 : Int) < (([1, -1] : List Int).length : Int)) = true from rfl, show (decide (0 ≤ (1 : Int)) && true) = true from rfl, show (([1, -1] : List Int)[(1 : Int).toNat]?) = some (-1) from rfl]
          simp only [cond_true, Option.bind_some, impl_clone hlen, hb, e2, hp2]
          cases p2 a.1.1 with
          | none => rfl
          | some b =>
            simp only [Option.bind_some]
            cases b.1.2.1 with
            | false => rfl
            | true =>
              simp only [Bool.not_true, cond_false]
              rw [show wr .i64 (1 + 1) = 2 from rfl, f88_l18]
              rfl

theorem ref_clash {n k : Nat} (hn : n ≤ 200) (hk : 5 ≤ k) {rules : List Ru} (hR : ∀ r ∈ rules, Rok n r) (hl : rules.length ≤ 3000) {vals : List Int} (hv : Vok n vals) {v x r : Int} (t : List Nd) :
    ∃ ok, f88 (k + 1) rules ((3, (v, (x, r))) :: t) vals = some ((t, ok, ()), (vals, ())) ∧ (ok = true → ∃ q ∈ rules, hold q vals < 0) ∧ (v = 0 → x = 0 → ∀ (i : Nat) (q : Ru), r = (i : Int) → rules[i]? = some q → hold q vals < 0 → ok = true) := by
  rw [ref_cons hn hl hv]
  unfold f88_j6
  rw [show ((3 : Int) == 3) = true from rfl]
  simp only [cond_true, beq_self_eq_true, Bool.true_and, Bool.and_true]
  cases hX : (v == 0 && x == 0) with
  | false =>
    refine ⟨false, rfl, fun h => (by cases h), fun h1 h2 => ?_⟩
    subst h1; subst h2; cases hX
  | true =>
    simp only [cond_true]
    cases hI : inR rules r with
    | false =>
      refine ⟨false, rfl, fun h => (by cases h), fun h1 h2 i q hi hq _ => ?_⟩
      subst hi
      have hil : i < rules.length := by
        rcases Nat.lt_or_ge i rules.length with q | q
        · exact q
        · rw [List.getElem?_eq_none q] at hq; cases hq
      unfold inR at hI
      rw [dle (show (0 : Int) ≤ (i : Int) by omega), dle (show (i : Int) ≤ (rules.length : Int) - 1 by omega)] at hI
      cases hI
    | true =>
      obtain ⟨i, q, hi, hq⟩ := inR_true hI
      subst hi
      simp only [cond_true, getI_nat, hq, Option.bind_some, impl_hold hk hv (hR q (List.mem_of_getElem? hq))]
      refine ⟨decide (hold q vals < 0), rfl, fun h => ⟨q, List.mem_of_getElem? hq, of_decide_eq_true h⟩, fun _ _ i' q' hi' hq' hh => ?_⟩
      obtain rfl : i = i' := by omega
      rw [hq] at hq'
      cases hq'
      exact decide_eq_true hh

/-- What is accepted is a refutation. -/
theorem ref_sound {n : Nat} (hn : n ≤ 200) {rules : List Ru} (hR : ∀ r ∈ rules, Rok n r) (hl : rules.length ≤ 3000) : ∀ (m : Nat) (N : List Nd), N.length ≤ m → ∀ (vals : List Int), Vok n vals → ∀ k, m + 10 ≤ k →
    ∃ (rest : List Nd) (ok : Bool) (w : List Int), f88 k rules N vals = some ((rest, ok, ()), (w, ())) ∧ rest.length ≤ N.length ∧ (ok = true → rest.length < N.length ∧ ∀ x, Sol n rules x → Ext n vals x → False)
  | m, [], hm, vals, hv, k, hk => by
    obtain ⟨k, rfl⟩ : ∃ q, k = q + 1 := ⟨k - 1, by omega⟩
    exact ⟨[], false, vals, rfl, Nat.le_refl _, fun h => (by cases h)⟩
  | 0, _ :: _, hm, vals, hv, k, hk => by simp at hm
  | m + 1, (kd, (v, (x, r))) :: t, hm, vals, hv, k, hk => by
    have ht : t.length ≤ m := by simpa using hm
    obtain ⟨k, rfl⟩ : ∃ q, k = q + 1 := ⟨k - 1, by omega⟩
    by_cases h3 : kd = 3
    · subst h3
      obtain ⟨ok, e1, e2, _⟩ := ref_clash hn (show 5 ≤ k by omega) hR hl hv (v := v) (x := x) (r := r) t
      refine ⟨t, ok, vals, e1, by simp, fun h => ⟨by simp, fun y hy he => ?_⟩⟩
      obtain ⟨q, hq, hh⟩ := e2 h
      have := hold_mono (hR q hq) hv hy.v he hh
      have := hy.h q hq
      omega
    · by_cases h2 : kd = 2
      · subst h2
        rcases ref_force hn (show 5 ≤ k by omega) hR hl hv (v := v) (x := x) (r := r) t with ⟨w, e⟩ | ⟨⟨i, q, hi, hq, hh⟩, ⟨v0, v1, v2⟩, hx, e⟩
        · exact ⟨[], false, w, e, by simp, fun h => (by cases h)⟩
        · have hx2 : x = -1 ∨ x = 0 ∨ x = 1 := by omega
          obtain ⟨rest, ok, w, a1, a2, a3⟩ := ref_sound hn hR hl m t ht (vals.set v.toNat x) (hv.set v.toNat hx2) k (by omega)
          refine ⟨rest, ok, w, by rw [e, a1]; rfl, by rw [List.length_cons]; omega, fun h => ?_⟩
          obtain ⟨b1, b2⟩ := a3 h
          refine ⟨by rw [List.length_cons]; omega, fun y hy he => ?_⟩
          have hu := hy.unit v0 v1
          by_cases c : vat y v = x
          · exact b2 y hy (he.of_set hv.l v0 c)
          · have hm := List.mem_of_getElem? hq
            have := hold_mono (hR q hm) (hv.set v.toNat (show -x = -1 ∨ -x = 0 ∨ -x = 1 by omega)) hy.v (he.of_set hv.l v0 (by omega)) hh
            have := hy.h q hm
            omega
      · by_cases h1 : kd = 1
        · subst h1
          have I1 := fun t ht => ref_sound hn hR hl m t ht (vals.set v.toNat 1) (hv.set v.toNat (.inr (.inr rfl))) k (by omega)
          have I2 := fun t ht => ref_sound hn hR hl m t ht (vals.set v.toNat (-1)) (hv.set v.toNat (.inl rfl)) k (by omega)
          rcases ref_branch hn (show 5 ≤ k by omega) hl hv (v := v) (x := x) (r := r) t _ _ (fun _ => rfl) (fun _ => rfl) with e | ⟨⟨v0, v1, v2⟩, e⟩
          · exact ⟨[], false, vals, e, by simp, fun h => (by cases h)⟩
          · obtain ⟨r1, o1, w1, a1, a2, a3⟩ := I1 t ht
            rw [a1] at e
            cases o1 with
            | false => exact ⟨[], false, vals, e, by simp, fun h => (by cases h)⟩
            | true =>
              obtain ⟨a4, a5⟩ := a3 rfl
              obtain ⟨r2, o2, w2, b1, b2, b3⟩ := I2 r1 (by omega)
              simp only [Option.bind_some, Bool.not_true, cond_false] at e
              rw [b1] at e
              cases o2 with
              | false => exact ⟨[], false, vals, e, by simp, fun h => (by cases h)⟩
              | true =>
                obtain ⟨b4, b5⟩ := b3 rfl
                refine ⟨r2, true, vals, e, by rw [List.length_cons]; omega, fun _ => ⟨by rw [List.length_cons]; omega, fun y hy he => ?_⟩⟩
                rcases hy.unit v0 v1 with c | c
                · exact a5 y hy (he.of_set hv.l v0 c)
                · exact b5 y hy (he.of_set hv.l v0 c)
        · rw [ref_cons hn hl hv]
          unfold f88_j6
          rw [show (kd == 3) = false from beq_eq_false_iff_ne.2 h3, show (kd == 2) = false from beq_eq_false_iff_ne.2 h2, show (kd == 1) = false from beq_eq_false_iff_ne.2 h1]
          cases isF n vals v with
          | false => exact ⟨[], false, vals, rfl, by simp, fun h => (by cases h)⟩
          | true => exact ⟨[], false, vals, rfl, by simp, fun h => (by cases h)⟩

/-- A chain of conclusions is accepted. -/
theorem ref_chain {n k : Nat} (hn : n ≤ 200) (hk : 5 ≤ k) {rules : List Ru} (hR : ∀ r ∈ rules, Rok n r) (hl : rules.length ≤ 3000) (M rest : List Nd) : ∀ (st : List (Int × (Int × Int))) (vals w : List Int), Vok n vals → Chain n rules vals st w → (∃ u, f88 k rules M w = some ((rest, true, ()), (u, ()))) → ∃ u, f88 (k + st.length) rules (st.map nd ++ M) vals = some ((rest, true, ()), (u, ()))
  | [], vals, w, hv, h, hM => by cases h; exact hM
  | p :: st, vals, w, hv, ⟨⟨i, r, hi, hr, hh⟩, ⟨b0, b1, b2, b3⟩, h⟩, hM => by
    obtain ⟨i0, v, x⟩ := p
    have hx : x = -1 ∨ x = 0 ∨ x = 1 := by simp only at b3; omega
    obtain ⟨u, e⟩ := ref_chain hn hk hR hl M rest st _ w (hv.set v.toNat hx) h hM
    have key := ref_force hn (show 5 ≤ k + st.length by omega) hR hl hv (v := v) (x := x) (r := i0) (st.map nd ++ M)
    refine ⟨u, ?_⟩
    simp only [List.map_cons, List.cons_append, List.length_cons, nd]
    rw [← Nat.add_assoc]
    -- the case that it is not accepted is excluded by reckoning it again
    rw [ref_cons hn hl hv]
    unfold f88_j6
    simp only at hi hh b0 b1 b2 b3
    subst hi
    have hil : i < rules.length := by
      rcases Nat.lt_or_ge i rules.length with q | q
      · exact q
      · rw [List.getElem?_eq_none q] at hr; cases hr
    obtain ⟨_, e2, _⟩ := vat_some hv b0 b1
    have hb := bndI b0 (show v < (vals.length : Int) by rw [hv.l]; exact b1)
    have hF : isF n vals v = true := by unfold isF; rw [dle b0, dlt b1, b2]; rfl
    have hI : inR rules (i : Int) = true := by unfold inR; rw [dle (show (0 : Int) ≤ (i : Int) by omega), dle (show (i : Int) ≤ (rules.length : Int) - 1 by omega)]; rfl
    have hU : (x == 1 || x == -1) = true := by rcases b3 with rfl | rfl <;> rfl
    have hw : wr .i64 (0 - x) = -x := by rw [wr_id (by omega) (by omega)]; omega
    rw [show ((2 : Int) == 3) = false from rfl, show ((2 : Int) == 2) = true from rfl]
    simp only [cond_false, cond_true, hF, hI, Bool.not_true, impl_unit1, Option.bind_some, getI_nat, hr, hU, hw, impl_with (show 5 ≤ k + st.length by omega) hv (hR r (List.mem_of_getElem? hr)) b0 b1 (show -x = -1 ∨ -x = 0 ∨ -x = 1 by omega), hb, e2]
    rw [show decide (hold r (vals.set v.toNat (-x)) ≥ 0) = false from decide_eq_false (by omega)]
    simp only [cond_false]
    rw [e]
    rfl

theorem chain_zs {n : Nat} {rules : List Ru} : ∀ {st : List (Int × (Int × Int))} {a w : List Int}, Vok n a → Chain n rules a st w → zs w + st.length = zs a
  | [], a, w, ha, h => by cases h; rfl
  | p :: st, a, w, ha, ⟨_, ⟨b0, b1, b2, b3⟩, h⟩ => by
    have hx : p.2.2 = -1 ∨ p.2.2 = 0 ∨ p.2.2 = 1 := by omega
    have ih := chain_zs (ha.set p.2.1.toNat hx) h
    obtain ⟨_, e2, _⟩ := vat_some ha b0 b1
    rw [b2] at e2
    have := zs_set e2 (x := p.2.2) (by omega)
    rw [List.length_cons]; omega

/-- A refutation is accepted. -/
theorem ref_accept {n : Nat} (hn : n ≤ 200) {rules : List Ru} (hR : ∀ r ∈ rules, Rok n r) (hl : rules.length ≤ 3000) {vals : List Int} {N : List Nd} (h : Rf n rules vals N) : Vok n vals → ∀ (rest : List Nd) (k : Nat), zs vals + 10 ≤ k → ∃ u, f88 k rules (N ++ rest) vals = some ((rest, true, ()), (u, ())) := by
  induction h with
  | @clash vals bad w st hP hb =>
    intro hv rest k hk
    obtain ⟨_, p2, p3, p4⟩ := hP
    have hz := chain_zs hv p3
    obtain ⟨k, rfl⟩ : ∃ q, k = (q + 1) + st.length := ⟨k - st.length - 1, by omega⟩
    rw [List.append_assoc]
    refine ref_chain hn (by omega) hR hl _ rest st vals w hv p3 ?_
    obtain ⟨ok, e1, _, e3⟩ := ref_clash hn (show 5 ≤ k by omega) hR hl p2 (v := 0) (x := 0) (r := bad) rest
    rcases p4 with ⟨h, _⟩ | ⟨i, r, h1, h2, h3⟩
    · omega
    · have := e3 rfl rfl i r h1 h2 h3
      subst this
      exact ⟨w, e1⟩
  | @branch vals w st N1 N2 v hP hv0 h1 h2 ih1 ih2 =>
    intro hv rest k hk
    obtain ⟨_, p2, p3, p4⟩ := hP
    have hz := chain_zs hv p3
    have z1 := zs_set hv0 (x := 1) (by omega)
    have z2 := zs_set hv0 (x := -1) (by omega)
    have hvl : v < n := by
      rcases Nat.lt_or_ge v n with q | q
      · exact q
      · rw [List.getElem?_eq_none (by rw [p2.l]; exact q)] at hv0; cases hv0
    obtain ⟨k, rfl⟩ : ∃ q, k = (q + 1) + st.length := ⟨k - st.length - 1, by omega⟩
    rw [List.append_assoc, List.cons_append, List.append_assoc]
    refine ref_chain hn (by omega) hR hl _ rest st vals w hv p3 ?_
    obtain ⟨u1, e1⟩ := ih1 (p2.set v (.inr (.inr rfl))) (N2 ++ rest) k (by omega)
    obtain ⟨u2, e2⟩ := ih2 (p2.set v (.inl rfl)) rest k (by omega)
    -- the node of the branch
    rw [ref_cons hn hl p2]
    unfold f88_j6
    have b2 := vat_nat hv0
    obtain ⟨_, e3, _⟩ := vat_some p2 (v := (v : Int)) (by omega) (by omega)
    have hb := bndI (i := (v : Int)) (n := w.length) (by omega) (show (v : Int) < (w.length : Int) by rw [p2.l]; omega)
    have hF : isF n w (v : Int) = true := by unfold isF; rw [dle (show (0 : Int) ≤ (v : Int) by omega), dlt (show (v : Int) < (n : Int) by omega), b2]; rfl
    have hlen : w.length ≤ 1048576 := by rw [p2.l]; omega
    rw [Int.toNat_natCast] at e3
    refine ⟨w, ?_⟩
    rw [show ((1 : Int) == 3) = false from rfl, show ((1 : Int) == 2) = false from rfl, show ((1 : Int) == 1) = true from rfl, show ((0 : Int) == 0) = true from rfl]
    simp only [cond_false, beq_self_eq_true, Bool.and_self, hF, Bool.not_true]
    obtain ⟨k, rfl⟩ : ∃ q, k = q + 3 := ⟨k - 3, by omega⟩
    rw [f88_l18]
    rw [show decide ((0 : Int) < (([1, -1] : List Int).length : Int)) = true from rfl, show (decide (0 ≤ (0 : Int)) && true) = true from rfl, show (([1, -1] : List Int)[(0 : Int).toNat]?) = some 1 from rfl]
    simp only [cond_true, Option.bind_some, impl_clone hlen, hb, e3, Int.toNat_natCast, e1, Bool.not_true, cond_false]
    rw [show wr .i64 (0 + 1) = 1 from rfl, f88_l18]
    rw [show decide ((1 : Int) < (([1, -1] : List Int).length : Int)) = true from rfl, show (decide (0 ≤ (1 : Int)) && true) = true from rfl, show (([1, -1] : List Int)[(1 : Int).toNat]?) = some (-1) from rfl]
    simp only [cond_true, Option.bind_some, impl_clone hlen, hb, e3, Int.toNat_natCast, e2, Bool.not_true, cond_false]
    rw [show wr .i64 (1 + 1) = 2 from rfl, f88_l18]
    rfl

/-! ### The depth -/
theorem depth_cons {k : Nat} (a : Nd) (t : List Nd) : f64 (k + 1) (a :: t) = bif (a.1 == 3) then some ((0, t, ()), ()) else bif (a.1 == 2) then (f64 k t).bind fun x7 => bif (decide (x7.1.1 < 0)) then some (((-1), ([] : List Nd), ()), ()) else some (((wr .i64 (x7.1.1 + 1)), x7.1.2.1, ()), ())
    else bif (a.1 == 1) then (f64 k t).bind fun x8 => bif (decide (x8.1.1 < 0)) then some (((-1), ([] : List Nd), ()), ()) else (f64 k x8.1.2.1).bind fun x9 => bif (decide (x9.1.1 < 0)) then some (((-1), ([] : List Nd), ()), ()) else some (((wr .i64 ((bif decide (x9.1.1 > x8.1.1) then x9.1.1 else x8.1.1) + 1)), x9.1.2.1, ()), ())
    else some (((-1), ([] : List Nd), ()), ()) := by
  rw [f64]
  rw [show ((((a :: t).length : Nat) : Int) == 0) = false by rw [beq_eq_false_iff_ne, List.length_cons]; omega]
  rw [show getI (a :: t) 0 = some a from rfl, show (decide ((0 : Nat) ≤ 1) && decide ((1 : Int) ≤ (((a :: t).length : Nat) : Int)) && decide ((((a :: t).length : Nat) : Int) ≤ (((a :: t).length : Nat) : Int))) = true by
    rw [dle (show (1 : Int) ≤ (((a :: t).length : Nat) : Int) by rw [List.length_cons]; omega), dle (Int.le_refl _)]; rfl]
  rw [sub_one]
  rfl

theorem depth_chain {k : Nat} (M rest : List Nd) (d : Int) (d0 : 0 ≤ d) (hM : f64 k M = some ((d, rest, ()), ())) : ∀ (st : List (Int × (Int × Int))), d + st.length ≤ 100000 → f64 (k + st.length) (st.map nd ++ M) = some ((d + st.length, rest, ()), ())
  | [], _ => by simpa using hM
  | p :: st, hd => by
    simp only [List.length_cons] at hd
    have ih := depth_chain M rest d d0 hM st (by omega)
    rw [List.map_cons, List.cons_append, List.length_cons, ← Nat.add_assoc, depth_cons]
    rw [show ((nd p).1 == 3) = false from rfl, show ((nd p).1 == 2) = true from rfl]
    simp only [cond_false, cond_true, ih, Option.bind_some]
    rw [show decide (d + (st.length : Int) < 0) = false from dnlt (by omega), wr_id (by omega) (by omega)]
    simp only [cond_false]
    rw [show d + (st.length : Int) + 1 = d + ((st.length + 1 : Nat) : Int) by omega]

theorem depth_ok {n : Nat} (hn : n ≤ 200) {rules : List Ru} {vals : List Int} {N : List Nd} (h : Rf n rules vals N) : Vok n vals → ∃ d : Int, 0 ≤ d ∧ d ≤ zs vals ∧ ∀ (rest : List Nd) (k : Nat), zs vals + 10 ≤ k → f64 k (N ++ rest) = some ((d, rest, ()), ()) := by
  induction h with
  | @clash vals bad w st hP hb =>
    intro hv
    obtain ⟨_, p2, p3, p4⟩ := hP
    have hz := chain_zs hv p3
    have hzs := zs_le vals
    rw [hv.l] at hzs
    refine ⟨0 + st.length, by omega, by omega, fun rest k hk => ?_⟩
    obtain ⟨k, rfl⟩ : ∃ q, k = (q + 1) + st.length := ⟨k - st.length - 1, by omega⟩
    rw [List.append_assoc]
    exact depth_chain _ rest 0 (by omega) (by rw [List.cons_append, depth_cons]; rfl) st (by omega)
  | @branch vals w st N1 N2 v hP hv0 h1 h2 ih1 ih2 =>
    intro hv
    obtain ⟨_, p2, p3, p4⟩ := hP
    have hz := chain_zs hv p3
    have hzs := zs_le vals
    rw [hv.l] at hzs
    have z1 := zs_set hv0 (x := 1) (by omega)
    have z2 := zs_set hv0 (x := -1) (by omega)
    obtain ⟨d1, a1, a2, a3⟩ := ih1 (p2.set v (.inr (.inr rfl)))
    obtain ⟨d2, b1, b2, b3⟩ := ih2 (p2.set v (.inl rfl))
    have hm : ∃ d, (bif decide (d2 > d1) then d2 else d1) = d ∧ 0 ≤ d ∧ (d ≤ d1 ∨ d ≤ d2) := by
      by_cases q : d2 > d1
      · exact ⟨d2, by rw [decide_eq_true q]; rfl, b1, .inr (by omega)⟩
      · exact ⟨d1, by rw [decide_eq_false q]; rfl, a1, .inl (by omega)⟩
    obtain ⟨d, m1, m2, m3⟩ := hm
    refine ⟨(d + 1) + st.length, by omega, by omega, fun rest k hk => ?_⟩
    obtain ⟨k, rfl⟩ : ∃ q, k = (q + 1) + st.length := ⟨k - st.length - 1, by omega⟩
    rw [List.append_assoc, List.cons_append, List.append_assoc]
    refine depth_chain _ rest (d + 1) (by omega) ?_ st (by omega)
    rw [depth_cons]
    rw [show ((1 : Int) == 3) = false from rfl, show ((1 : Int) == 2) = false from rfl, show ((1 : Int) == 1) = true from rfl]
    simp only [cond_false, cond_true, a3 (N2 ++ rest) k (by omega), b3 rest k (by omega), Option.bind_some]
    rw [show decide (d1 < 0) = false from dnlt a1, show decide (d2 < 0) = false from dnlt b1, m1]
    simp only [cond_false]
    rw [wr_id (by omega) (by omega)]
end Go.Proofs.Ytiilgicmdnllbaa.R
