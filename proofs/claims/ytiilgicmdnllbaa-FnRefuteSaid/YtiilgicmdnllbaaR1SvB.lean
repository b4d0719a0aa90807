/- What a rule says of values: both sides say the same. -/
import Derived.Test.YtiilgicmdnllbaaR1SvA
namespace Go.Proofs.Ytiilgicmdnllbaa.R
open Go.Proofs.Ytiilgicmdnllbaa.R1

structure Vok (n : Nat) (vals : List Int) : Prop where
  l : vals.length = n
  t : ∀ x ∈ vals, x = -1 ∨ x = 0 ∨ x = 1

def vat (vals : List Int) (v : Int) : Int := (getI vals v).getD 0

theorem vat_some {n : Nat} {vals : List Int} (hv : Vok n vals) {v : Int} (h0 : 0 ≤ v) (h1 : v < n) : getI vals v = some (vat vals v) ∧ vals[v.toNat]? = some (vat vals v) ∧ (vat vals v = -1 ∨ vat vals v = 0 ∨ vat vals v = 1) := by
  obtain ⟨x, e1, e2⟩ := getI_some (l := vals) h0 (by rw [hv.l]; exact h1)
  have : vat vals v = x := by unfold vat; rw [e1]; rfl
  rw [this]
  exact ⟨e1, e2, hv.t x (List.mem_of_getElem? e2)⟩

def tms (vals : List Int) : List Int → List Int → List Int
  | v :: vs, s :: ss => wr .i64 (vat vals v * s) :: tms vals vs ss
  | _, _ => []

theorem term_tri {x s : Int} (hx : x = -1 ∨ x = 0 ∨ x = 1) (hs : s = 1 ∨ s = -1) : (wr .i64 (x * s) = -1 ∨ wr .i64 (x * s) = 0 ∨ wr .i64 (x * s) = 1) ∧ (wr .i64 (x * s) = 0 ↔ x = 0) := by
  rcases hx with rfl | rfl | rfl <;> rcases hs with rfl | rfl <;> decide

/-- The specification's counts: open, product, plus, minus. -/
def sf : List Int → Int → Int → Int → Int → Int × Int × Int × Int
  | [], o, p, a, b => (o, p, a, b)
  | t :: r, o, p, a, b => bif t == 0 then sf r (wr .i64 (o + 1)) (wr .i64 (p * t)) a b else bif t == 1 then sf r o (wr .i64 (p * t)) (wr .i64 (a + 1)) b else sf r o (wr .i64 (p * t)) a (wr .i64 (b + 1))

/-- The program's: product and counts. -/
def hf : List Int → Int → List Int → Int × List Int
  | [], p, c => (p, c)
  | t :: r, p, c => hf r (wr .i64 (p * t)) (c.set (wr .i64 (t + 1)).toNat (wr .i64 ((c[(wr .i64 (t + 1)).toNat]?).getD 0 + 1)))

def HS (kd : Int) (q : Int × Int × Int × Int) : Int :=
  bif kd == 3 then (bif decide (q.2.2.1 > 0) then (bif decide (q.2.2.2 > 0) then 1 else bif q.1 == 0 then -1 else 0) else bif q.1 == 0 then -1 else 0)
  else bif kd == 2 then (bif decide (q.2.2.1 > 0) then (bif decide (q.2.2.2 > 0) then -1 else bif q.1 == 0 then 1 else 0) else bif q.1 == 0 then 1 else 0)
  else q.2.1

def HI (kd : Int) (q : Int × List Int) : Int :=
  bif (kd == 1 || kd == 4 || kd == 2) then q.1
  else bif decide ((q.2[0]?).getD 0 > 0) && decide ((q.2[2]?).getD 0 > 0) then 1
  else bif ((q.2[0]?).getD 0 == 3 || (q.2[2]?).getD 0 == 3) then -1 else 0

def tri : Nat → List (List Int)
  | 0 => [[]]
  | n + 1 => (tri n).flatMap fun l => [-1 :: l, 0 :: l, 1 :: l]

theorem mem_tri : ∀ {l : List Int}, (∀ x ∈ l, x = -1 ∨ x = 0 ∨ x = 1) → l ∈ tri l.length
  | [], _ => List.mem_singleton.2 rfl
  | x :: l, h => by
    refine List.mem_flatMap.2 ⟨l, mem_tri fun y hy => h y (List.mem_cons.2 (.inr hy)), ?_⟩
    rcases h x (List.mem_cons.2 (.inl rfl)) with rfl | rfl | rfl <;> simp

def H (kd : Int) (ts : List Int) : Int := HS kd (sf ts 0 1 0 0)

def chk (n : Nat) : Bool := (tri n).all fun ts => HI (n : Int) (hf ts 1 [0, 0, 0]) == H (n : Int) ts && (ts.any (· == 0) || H (n : Int) ts != 0)
theorem chk1 : chk 1 = true := by kernel_rfl
theorem chk2 : chk 2 = true := by kernel_rfl
theorem chk3 : chk 3 = true := by kernel_rfl
theorem chk4 : chk 4 = true := by kernel_rfl

theorem chk_of {kd : Int} (h1 : 1 ≤ kd) (h4 : kd ≤ 4) {ts : List Int} (hl : (ts.length : Int) = kd) (ht : ∀ x ∈ ts, x = -1 ∨ x = 0 ∨ x = 1) : HI kd (hf ts 1 [0, 0, 0]) = H kd ts ∧ (H kd ts = 0 → ∃ x ∈ ts, x = 0) := by
  have key : chk ts.length = true := by
    have : ts.length = 1 ∨ ts.length = 2 ∨ ts.length = 3 ∨ ts.length = 4 := by omega
    rcases this with e | e | e | e <;> rw [e]
    · exact chk1
    · exact chk2
    · exact chk3
    · exact chk4
  have := List.all_eq_true.1 key ts (mem_tri ht)
  rw [hl] at this
  rw [Bool.and_eq_true, beq_iff_eq, Bool.or_eq_true] at this
  refine ⟨this.1, fun h => ?_⟩
  rcases this.2 with q | q
  · obtain ⟨x, hx, e⟩ := List.any_eq_true.1 q
    exact ⟨x, hx, by simpa using e⟩
  · rw [h] at q; cases q

theorem spec_hold_loop {ρ : Type} (k : Nat) (r : Ru) (vals : List Int) {n : Nat} (hv : Vok n vals) (hr : Rok n r) (nx) : ∀ (vs ss : List Int) (i : Nat), r.2.1.drop i = vs → r.2.2.drop i = ss → ∀ j, vs.length < j → ∀ o p a b,
    f47_l6 (ρ := ρ) k j r vals o p a b (i : Int) nx = nx.1 ((r, (sf (tms vals vs ss) o p a b).1, (sf (tms vals vs ss) o p a b).2.1, (sf (tms vals vs ss) o p a b).2.2.1, (sf (tms vals vs ss) o p a b).2.2.2, ()), ())
  | [], ss, i, h, h2, j, hj, o, p, a, b => by
    obtain ⟨j, rfl⟩ : ∃ q, j = q + 1 := ⟨j - 1, by simp at hj; omega⟩
    simp only [f47_l6, out_nil h, cond_false]
    cases ss <;> rfl
  | v :: vs, ss, i, h, h2, j, hj, o, p, a, b => by
    obtain ⟨j, rfl⟩ : ∃ q, j = q + 1 := ⟨j - 1, by simp at hj; omega⟩
    have hlt := lt_cons h
    have hlen : i < 4611686018427387904 := by have := hr.lv; have := hr.k4; omega
    cases ss with
    | nil => have := ge_nil h2; have := hr.ls; omega
    | cons s ss =>
      obtain ⟨b0, b1⟩ := hr.v v (List.mem_of_getElem? (at_cons h))
      obtain ⟨e1, _, e3⟩ := vat_some hv b0 b1
      have ih := spec_hold_loop k r vals hv hr nx vs ss (i + 1) (next_cons h) (next_cons h2) j (by simpa using hj)
      simp only [f47_l6, in_cons h, cond_true, getI_cons h, Option.bind_some, e1, getI_cons h2, wr_succ hlen, tms, sf]
      generalize wr .i64 (vat vals v * s) = t
      cases t == 0 with
      | true => simp only [cond_true]; exact ih ..
      | false =>
        simp only [cond_false]
        cases t == 1 with
        | true => simp only [cond_true]; exact ih ..
        | false => simp only [cond_false]; exact ih ..

/-- The terms of a rule. -/
def ts (r : Ru) (vals : List Int) : List Int := tms vals r.2.1 r.2.2

def hold (r : Ru) (vals : List Int) : Int := H r.1 (ts r vals)

theorem spec_hold {k n : Nat} (hk : 5 ≤ k) {r : Ru} {vals : List Int} (hv : Vok n vals) (hr : Rok n r) : f47 k r vals = some ((hold r vals, ()), ()) := by
  unfold f47
  rw [show (0 : Int) = ((0 : Nat) : Int) from rfl, spec_hold_loop k r vals hv hr _ r.2.1 r.2.2 0 rfl rfl k (by have := hr.lv; have := hr.k4; omega)]
  unfold hold H HS ts
  generalize sf (tms vals r.2.1 r.2.2) 0 1 0 0 = q
  show (bif r.1 == 3 then _ else _) = _
  cases r.1 == 3 with
  | true =>
    simp only [cond_true]
    cases decide (q.2.2.1 > 0) with
    | true =>
      simp only [cond_true]
      cases decide (q.2.2.2 > 0) with
      | true => rfl
      | false =>
        simp only [cond_false]
        cases q.1 == 0 <;> rfl
    | false =>
      simp only [cond_false]
      cases q.1 == 0 <;> rfl
  | false =>
    simp only [cond_false]
    cases r.1 == 2 with
    | true =>
      simp only [cond_true]
      cases decide (q.2.2.1 > 0) with
      | true =>
        simp only [cond_true]
        cases decide (q.2.2.2 > 0) with
        | true => rfl
        | false =>
          simp only [cond_false]
          cases q.1 == 0 <;> rfl
      | false =>
        simp only [cond_false]
        cases q.1 == 0 <;> rfl
    | false => rfl

theorem tms_tri {n : Nat} {vals : List Int} (hv : Vok n vals) : ∀ {vs ss : List Int}, (∀ x ∈ vs, 0 ≤ x ∧ x < n) → (∀ x ∈ ss, x = 1 ∨ x = -1) → vs.length = ss.length → (tms vals vs ss).length = vs.length ∧ (∀ x ∈ tms vals vs ss, x = -1 ∨ x = 0 ∨ x = 1) ∧ ((∃ x ∈ tms vals vs ss, x = 0) → ∃ v ∈ vs, vat vals v = 0)
  | [], ss, _, _, _ => ⟨rfl, fun x hx => (by cases hx), fun ⟨x, hx, _⟩ => (by cases hx)⟩
  | v :: vs, [], _, _, h => by cases h
  | v :: vs, s :: ss, h1, h2, h3 => by
    obtain ⟨i1, i2, i3⟩ := tms_tri hv (vs := vs) (ss := ss) (fun x hx => h1 x (List.mem_cons.2 (.inr hx))) (fun x hx => h2 x (List.mem_cons.2 (.inr hx))) (by simpa using h3)
    obtain ⟨b0, b1⟩ := h1 v (List.mem_cons.2 (.inl rfl))
    obtain ⟨_, _, e3⟩ := vat_some hv b0 b1
    obtain ⟨t1, t2⟩ := term_tri e3 (h2 s (List.mem_cons.2 (.inl rfl)))
    refine ⟨by simp [tms, i1], fun x hx => ?_, fun ⟨x, hx, e⟩ => ?_⟩
    · rcases List.mem_cons.1 hx with rfl | hx
      · exact t1
      · exact i2 x hx
    · rcases List.mem_cons.1 hx with rfl | hx
      · exact ⟨v, List.mem_cons.2 (.inl rfl), t2.1 e⟩
      · obtain ⟨u, hu, e⟩ := i3 ⟨x, hx, e⟩
        exact ⟨u, List.mem_cons.2 (.inr hu), e⟩

theorem impl_hold_loop {ρ : Type} (k : Nat) (r : Ru) (vals : List Int) {n : Nat} (hv : Vok n vals) (hr : Rok n r) (nx) : ∀ (vs ss : List Int) (i : Nat), r.2.1.drop i = vs → r.2.2.drop i = ss → ∀ j, vs.length < j → ∀ p c, c.length = 3 →
    f52_l4 (ρ := ρ) k j vals p r.2.1 (r.2.1.length : Int) (i : Int) r.1 r.2.1 r.2.2 c nx = nx.1 (((), (), (hf (tms vals vs ss) p c).1, ()), ((r.1, r.2.1, r.2.2, ()), (hf (tms vals vs ss) p c).2, ())) ∧ (hf (tms vals vs ss) p c).2.length = 3
  | [], ss, i, h, h2, j, hj, p, c, hc => by
    obtain ⟨j, rfl⟩ : ∃ q, j = q + 1 := ⟨j - 1, by simp at hj; omega⟩
    simp only [f52_l4, out_nil h, cond_false]
    cases ss <;> exact ⟨rfl, hc⟩
  | v :: vs, ss, i, h, h2, j, hj, p, c, hc => by
    obtain ⟨j, rfl⟩ : ∃ q, j = q + 1 := ⟨j - 1, by simp at hj; omega⟩
    have hlt := lt_cons h
    have hlen : i < 4611686018427387904 := by have := hr.lv; have := hr.k4; omega
    cases ss with
    | nil => have := ge_nil h2; have := hr.ls; omega
    | cons s ss =>
      obtain ⟨b0, b1⟩ := hr.v v (List.mem_of_getElem? (at_cons h))
      obtain ⟨e1, _, e3⟩ := vat_some hv b0 b1
      have ht := (term_tri e3 (hr.s s (List.mem_of_getElem? (at_cons h2)))).1
      have ih := impl_hold_loop k r vals hv hr nx vs ss (i + 1) (next_cons h) (next_cons h2) j (by simpa using hj)
      simp only [f52_l4, in_cons h, cond_true, getI_cons h, Option.bind_some, e1, getI_cons h2, wr_succ hlen, tms, hf]
      generalize wr .i64 (vat vals v * s) = t at ht
      have hb : (decide (0 ≤ wr .i64 (t + 1)) && decide (wr .i64 (t + 1) < (3 : Int))) = true := by rcases ht with rfl | rfl | rfl <;> decide
      have hn : (wr .i64 (t + 1)).toNat < 3 := by rcases ht with rfl | rfl | rfl <;> decide
      rw [hb]
      obtain ⟨x, hx⟩ : ∃ x, c[(wr .i64 (t + 1)).toNat]? = some x := ⟨_, List.getElem?_eq_getElem (by omega)⟩
      simp only [cond_true, hx, Option.bind_some, Option.getD_some]
      exact ih _ _ (by rw [List.length_set]; exact hc)

theorem impl_hold {k n : Nat} (hk : 5 ≤ k) {r : Ru} {vals : List Int} (hv : Vok n vals) (hr : Rok n r) : f52 k r.1 r.2.1 r.2.2 vals = some ((hold r vals, ()), ()) := by
  unfold f52
  obtain ⟨h1, h2⟩ := impl_hold_loop (ρ := (Int × Unit) × Unit) k r vals hv hr
    (fun x28 : ((Unit × Unit × Int × Unit) × ((Int × (List Int) × (List Int) × Unit) × (List Int) × Unit)) =>
      bif (x28.2.1.1 == 1) then
        bif (x28.2.1.1 == 1) then
          some ((x28.1.2.2.1, ()), ())
        else
          bif (x28.2.1.1 == 2) then
            some ((x28.1.2.2.1, ()), ())
          else
            f52_j16 k x28.2.2.1
              (fun x29 : ((Int × Unit) × Unit) =>
                some ((x29.1.1, ()), ()),
              ())
      else
        bif (x28.2.1.1 == 4) then
          some ((x28.1.2.2.1, ()), ())
        else
          bif (x28.2.1.1 == 2) then
            some ((x28.1.2.2.1, ()), ())
          else
            f52_j16 k x28.2.2.1
              (fun x30 : ((Int × Unit) × Unit) =>
                some ((x30.1.1, ()), ()),
              ()),
    ()) r.2.1 r.2.2 0 rfl rfl k (by have := hr.lv; have := hr.k4; omega) 1 [0, 0, 0] rfl
  obtain ⟨t1, t2, _⟩ := tms_tri hv hr.v hr.s hr.ls.symm
  obtain ⟨c1, _⟩ := chk_of hr.k1 hr.k4 (by rw [t1]; exact hr.lv) t2
  unfold hold ts
  refine h1.trans ?_
  rw [← c1]
  clear h1 c1
  generalize hf (tms vals r.2.1 r.2.2) 1 [0, 0, 0] = q at h2
  obtain ⟨p, c⟩ := q
  obtain ⟨c0, c1, c2, rfl⟩ : ∃ c0 c1 c2, c = [c0, c1, c2] := by
    match c, h2 with
    | [a, b, d], _ => exact ⟨a, b, d, rfl⟩
  unfold HI
  show (bif r.1 == 1 then (bif r.1 == 1 then _ else _) else _) = _
  cases e1 : r.1 == 1 with
  | true => rfl
  | false =>
    simp only [cond_false]
    show (bif r.1 == 4 then _ else _) = _
    cases e4 : r.1 == 4 with
    | true => rfl
    | false =>
      simp only [cond_false]
      show (bif r.1 == 2 then _ else _) = _
      cases e2 : r.1 == 2 with
      | true => rfl
      | false =>
        simp only [cond_false, f52_j16, Bool.or_self, List.getElem?_cons_zero, List.getElem?_cons_succ, Option.getD_some, Option.bind_some]
        rw [show (decide (0 ≤ (0 : Nat)) && decide ((0 : Int) < 3)) = true from rfl, show (decide (0 ≤ (2 : Nat)) && decide ((2 : Int) < 3)) = true from rfl]
        simp only [cond_true]
        cases decide (c0 > 0) with
        | true =>
          simp only [cond_true, Bool.true_and]
          cases decide (c2 > 0) with
          | true => rfl
          | false =>
            simp only [cond_false]
            cases c0 == 3 with
            | true => rfl
            | false =>
              simp only [cond_false, Bool.false_or]
              cases c2 == 3 <;> rfl
        | false =>
          simp only [cond_false, Bool.false_and]
          cases c0 == 3 with
          | true => rfl
          | false =>
            simp only [cond_false, Bool.false_or]
            cases c2 == 3 <;> rfl

/-- What says nothing has an open variable. -/
theorem hold_open {n : Nat} {r : Ru} {vals : List Int} (hv : Vok n vals) (hr : Rok n r) (h : hold r vals = 0) : ∃ v ∈ r.2.1, vat vals v = 0 := by
  obtain ⟨t1, t2, t3⟩ := tms_tri hv hr.v hr.s hr.ls.symm
  exact t3 ((chk_of hr.k1 hr.k4 (by rw [t1]; exact hr.lv) t2).2 h)
end Go.Proofs.Ytiilgicmdnllbaa.R
