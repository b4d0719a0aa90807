/- The searches go the same way. -/
import Derived.Test.YtiilgicmdnllbaaR1SvD
namespace Go.Proofs.Ytiilgicmdnllbaa.R
open Go.Proofs.Ytiilgicmdnllbaa.R1

/-- The first open variable, or -1. -/
def fop : List Int → Nat → Int
  | [], _ => -1
  | x :: r, i => bif x == 0 then (i : Int) else fop r (i + 1)

theorem spec_open {k : Nat} (l : List Int) (hk : l.length < k) (h2 : l.length < 4611686018427387904) : f84 k l = some ((fop l 0, ()), ()) := by
  have loop : ∀ (rest : List Int) (i : Nat), l.drop i = rest → ∀ j, rest.length < j →
      f84_l2 (ρ := (Int × Unit) × Unit) k j l (i : Int) (fun x6 : (Unit × Unit) => some (((-1 : Int), ()), ()), fun x7 : ((Int × Unit) × Unit) => some ((x7.1.1, ()), ()), ()) = some ((fop rest i, ()), ()) := by
    intro rest
    induction rest with
    | nil =>
      intro i h j hj
      obtain ⟨j, rfl⟩ : ∃ q, j = q + 1 := ⟨j - 1, by simp at hj; omega⟩
      simp only [f84_l2, out_nil h, cond_false, fop]
    | cons x rest ih =>
      intro i h j hj
      obtain ⟨j, rfl⟩ : ∃ q, j = q + 1 := ⟨j - 1, by simp at hj; omega⟩
      have hlt := lt_cons h
      simp only [f84_l2, in_cons h, cond_true, getI_cons h, Option.bind_some, wr_succ (show i < 4611686018427387904 by omega), fop]
      cases x == 0 with
      | true => rfl
      | false => simp only [cond_false]; exact ih (i + 1) (next_cons h) j (by simpa using hj)
  unfold f84
  exact loop l 0 rfl k hk

theorem impl_open {k : Nat} (l : List Int) (hk : l.length < k) (h2 : l.length < 4611686018427387904) : f102 k l 0 = some ((fop l 0, ()), ()) := by
  have loop : ∀ (rest : List Int) (i : Nat), l.drop i = rest → ∀ j, rest.length < j →
      f102_l2 (ρ := (Int × Unit) × Unit) k j l 0 (l.length : Int) (i : Int) (fun x6 : (Unit × Unit) => some (((-1 : Int), ()), ()), fun x7 : ((Int × Unit) × Unit) => some ((x7.1.1, ()), ()), ()) = some ((fop rest i, ()), ()) := by
    intro rest
    induction rest with
    | nil =>
      intro i h j hj
      obtain ⟨j, rfl⟩ : ∃ q, j = q + 1 := ⟨j - 1, by simp at hj; omega⟩
      simp only [f102_l2, out_nil h, cond_false, fop]
    | cons x rest ih =>
      intro i h j hj
      obtain ⟨j, rfl⟩ : ∃ q, j = q + 1 := ⟨j - 1, by simp at hj; omega⟩
      have hlt := lt_cons h
      simp only [f102_l2, in_cons h, cond_true, getI_cons h, Option.bind_some, wr_succ (show i < 4611686018427387904 by omega), fop]
      rw [show ((0 : Int) == x) = (x == 0) from by rw [Bool.eq_iff_iff]; simp; exact eq_comm]
      cases x == 0 with
      | true => rfl
      | false => simp only [cond_false]; exact ih (i + 1) (next_cons h) j (by simpa using hj)
  unfold f102
  exact loop l 0 rfl k hk

theorem fop_at : ∀ {l : List Int} {i : Nat}, fop l i = -1 ∨ ∃ j : Nat, fop l i = ((i + j : Nat) : Int) ∧ l[j]? = some 0
  | [], _ => .inl rfl
  | x :: l, i => by
    unfold fop
    cases h : x == 0 with
    | true => exact .inr ⟨0, rfl, by simpa using h⟩
    | false =>
      simp only [cond_false]
      rcases fop_at (l := l) (i := i + 1) with e | ⟨j, e, h⟩
      · exact .inl e
      · exact .inr ⟨j + 1, by rw [e]; congr 1; omega, by simpa using h⟩

theorem fop_none : ∀ {l : List Int} {i : Nat}, fop l i = -1 → ∀ x ∈ l, x ≠ 0
  | [], _, _, x, hx => by cases hx
  | y :: l, i, h, x, hx => by
    unfold fop at h
    cases h0 : y == 0 with
    | true => rw [h0] at h; simp only [cond_true] at h; omega
    | false =>
      rw [h0] at h
      rcases List.mem_cons.1 hx with rfl | hx
      · simpa using h0
      · exact fop_none h x hx

theorem fop_first : ∀ {l : List Int} {i j : Nat}, fop l i = ((i + j : Nat) : Int) → ∀ q, q < j → ∀ x, l[q]? = some x → x ≠ 0
  | [], _, _, _, q, _, x, hx => by simp at hx
  | y :: l, i, j, h, q, hq, x, hx => by
    unfold fop at h
    cases h0 : y == 0 with
    | true => rw [h0] at h; simp only [cond_true] at h; omega
    | false =>
      rw [h0] at h
      cases q with
      | zero => simp at hx; subst hx; simpa using h0
      | succ q =>
        simp at hx
        obtain ⟨j, rfl⟩ : ∃ p, j = p + 1 := ⟨j - 1, by omega⟩
        exact fop_first (l := l) (i := i + 1) (j := j) (by rw [show i + 1 + j = i + (j + 1) by omega]; exact h) q (by omega) x hx

def Pr (n : Nat) (rules : List Ru) (vals : List Int) (bad : Int) (w : List Int) (st : List (Int × (Int × Int))) : Prop :=
  (∀ k, 3300 ≤ k → f83 k rules vals = some (((), bad, ()), (w, st, ()))) ∧ Vok n w ∧ Chain n rules vals st w ∧ Stop rules bad w

/-- The search, as a relation: so many are found so far, the values, the steps; whether it goes on, the steps, what it finds. -/
inductive Srch (n : Nat) (rules : List Ru) (B : Int) (M : Nat) : Nat → List Int → Int → Bool → Int → List (List Int) → Prop
  | spent {c vals n0} : n0 + 1 > B → Srch n rules B M c vals n0 false (n0 + 1) []
  | clash {c vals n0 bad w st} : n0 + 1 ≤ B → Pr n rules vals bad w st → 0 ≤ bad → Srch n rules B M c vals n0 true (n0 + 1) []
  | found {c vals n0 w st} : n0 + 1 ≤ B → Pr n rules vals (-1) w st → (∀ x ∈ w, x ≠ 0) → Srch n rules B M c vals n0 (decide (c + 1 < M)) (n0 + 1) [w]
  | stop {c vals n0 w st v n1 G} : n0 + 1 ≤ B → Pr n rules vals (-1) w st → w[v]? = some 0 → (∀ q, q < v → ∀ x, w[q]? = some x → x ≠ 0) → Srch n rules B M c (w.set v 1) (n0 + 1) false n1 G → Srch n rules B M c vals n0 false n1 G
  | both {c vals n0 w st v n1 G b n2 G2} : n0 + 1 ≤ B → Pr n rules vals (-1) w st → w[v]? = some 0 → (∀ q, q < v → ∀ x, w[q]? = some x → x ≠ 0) → Srch n rules B M c (w.set v 1) (n0 + 1) true n1 G → Srch n rules B M (c + G.length) (w.set v (-1)) n1 b n2 G2 → Srch n rules B M c vals n0 b n2 (G ++ G2)

theorem impl_found {k : Nat} {M : Nat} {vals : List Int} {F : List (List Int)} (hF : F.length ≤ 100000) : f72 k (M : Int) vals F = some ((decide (((F ++ [vals]).length : Int) < (M : Int)), ()), (((), ()), (F ++ [vals], ()))) := by
  unfold f72 f73
  rw [show decide ((F.length + [vals].length) * 24 ≤ roomy) = true from decide_eq_true (by simp only [List.length_singleton, roomy]; omega)]
  rfl

def Out1 (n : Nat) (rules : List Ru) (B : Int) (M z : Nat) (vals : List Int) (n0 : Int) (F0 : List (List Int)) : Prop :=
    ∃ (b : Bool) (n1 : Int) (F : List (List Int)), 0 ≤ n1 ∧ n1 ≤ B + 1 ∧ F.length ≤ M ∧ (b = true → n1 ≤ B ∧ F.length < M) ∧ ((∀ x ∈ F, x.length = n) ∧ ∃ G, F = F0 ++ G ∧ Srch n rules B M F0.length vals n0 b n1 G) ∧ ∀ k, 3300 + z ≤ k →
      f81 (k + 1) rules B n0 (M : Int) (F0.length : Int) F0 vals = some ((b, ()), ((rules, B, n1, (M : Int), (F.length : Int), (), ()), F, ())) ∧
      f92 (k + 1) rules B n0 (M : Int) F0 vals = some ((b, ()), ((rules, B, n1, (((), ()), (M : Int)), (), ()), ((), ()), F, ()))

theorem search_step {n : Nat} (hn : n ≤ 200) (rules : List Ru) (hR : ∀ r ∈ rules, Rok n r) (hl : rules.length ≤ 3000) (B : Int) (hB : B ≤ 5000) (M : Nat) (h1 : 1 ≤ M) (hM : M ≤ 100) (z : Nat)
    (ih : ∀ z', z' + 1 = z → ∀ (vals : List Int), Vok n vals → zs vals ≤ z' → ∀ (n0 : Int) (F0 : List (List Int)), 0 ≤ n0 → n0 ≤ B → F0.length < M → (∀ x ∈ F0, x.length = n) → Out1 n rules B M z' vals n0 F0)
    (vals : List Int) (hv : Vok n vals) (hz : zs vals ≤ z) (n0 : Int) (F0 : List (List Int)) (h0 : 0 ≤ n0) (hnB : n0 ≤ B) (hF : F0.length < M) (hFl : ∀ x ∈ F0, x.length = n) : Out1 n rules B M z vals n0 F0 := by
  have hw : wr .i64 (n0 + 1) = n0 + 1 := wr_id (by omega) (by omega)
  by_cases hb : n0 + 1 > B
  · refine ⟨false, n0 + 1, F0, by omega, by omega, by omega, fun h => (by cases h), ⟨hFl, [], by simp, .spent hb⟩, fun k hk => ⟨?_, ?_⟩⟩
    · simp only [f81, hw]
      rw [show decide (n0 + 1 > B) = true from decide_eq_true hb]; rfl
    · simp only [f92, hw]
      rw [show decide (n0 + 1 > B) = true from decide_eq_true hb]; rfl
  · have hbf : decide (n0 + 1 > B) = false := decide_eq_false hb
    obtain ⟨bad, vals', st, c1, c2, c3, c4⟩ := props hn rules hR hl vals hv
    obtain ⟨c3, c5, c6⟩ := c3
    have hP : Pr n rules vals bad vals' st := ⟨fun k hk => (c4 k hk).1, c1, c5, c6⟩
    rcases c3 with rfl | hbad
    · -- no rule is violated
      have hlen : vals'.length ≤ 200 := by rw [c1.l]; exact hn
      rcases fop_at (l := vals') (i := 0) with e | ⟨v, e, hv0⟩
      · -- a solution
        refine ⟨decide (((F0 ++ [vals']).length : Int) < (M : Int)), n0 + 1, F0 ++ [vals'], by omega, by omega, by rw [List.length_append, List.length_singleton]; omega, fun h => ⟨by omega, by have := of_decide_eq_true h; omega⟩, ⟨fun x hx => ?_, [vals'], rfl, ?_⟩, fun k hk => ⟨?_, ?_⟩⟩
        · rcases List.mem_append.1 hx with h | h
          · exact hFl x h
          · rw [List.mem_singleton.1 h]; exact c1.l
        · have := Srch.found (M := M) (c := F0.length) (B := B) (n0 := n0) (by omega) hP (fop_none e)
          rw [show decide (((F0 ++ [vals']).length : Int) < (M : Int)) = decide (F0.length + 1 < M) from by rw [decide_eq_decide, List.length_append, List.length_singleton]; omega]
          exact this
        · obtain ⟨d1, _, _⟩ := c4 k (by omega)
          simp only [f81, hw, hbf, cond_false, d1, Option.bind_some]
          rw [show decide ((-1 : Int) ≥ 0) = false from rfl]
          simp only [cond_false, spec_open vals' (show vals'.length < k by omega) (by omega), Option.bind_some, e]
          rw [show decide ((-1 : Int) < 0) = true from rfl, show decide ((F0.length : Int) < (M : Int)) = true from dlt (by omega),
            show decide ((F0.length + [vals'].length) * 24 ≤ roomy) = true from decide_eq_true (by simp only [List.length_singleton, roomy]; omega)]
          simp only [cond_true, f81_j12]
          rw [show ((M : Int) == 0) = false from by simp; omega]
          simp only [cond_false, wr_succ (show F0.length < 4611686018427387904 by omega), List.length_append, List.length_singleton]
        · obtain ⟨_, d2, _⟩ := c4 k (by omega)
          simp only [f92, hw, hbf, cond_false, d2, Option.bind_some]
          rw [show decide ((-1 : Int) ≥ 0) = false from rfl]
          simp only [cond_false, impl_open vals' (show vals'.length < k by omega) (by omega), Option.bind_some, e]
          rw [show decide ((-1 : Int) < 0) = true from rfl]
          simp only [cond_true, impl_found (show F0.length ≤ 100000 by omega), Option.bind_some]
      · -- a branch
        have hfst := fop_first (j := v) e
        rw [Nat.zero_add] at e
        have hvl : v < vals'.length := by
          rcases Nat.lt_or_ge v vals'.length with q | q
          · exact q
          · rw [List.getElem?_eq_none q] at hv0; cases hv0
        have z1 := zs_set hv0 (x := 1) (by omega)
        have z2 := zs_set hv0 (x := -1) (by omega)
        obtain ⟨z', rfl⟩ : ∃ q, z = q + 1 := ⟨z - 1, by omega⟩
        have v1 := c1.set v (x := 1) (.inr (.inr rfl))
        have v2 := c1.set v (x := -1) (.inl rfl)
        have hbv := bnd hvl
        have hge : decide ((-1 : Int) ≥ 0) = false := rfl
        have hnl : decide ((v : Int) < 0) = false := dnlt (by omega)
        obtain ⟨b1, m1, F1, e1, e2, e3, e4, ⟨e5, G1, rfl, e7⟩, e6⟩ := ih z' rfl _ v1 (by omega) (n0 + 1) F0 (by omega) (by omega) hF hFl
        cases b1 with
        | false =>
          refine ⟨false, m1, F0 ++ G1, e1, e2, e3, e4, ⟨e5, G1, rfl, .stop (by omega) hP hv0 hfst e7⟩, fun k hk => ?_⟩
          obtain ⟨d1, d2, _⟩ := c4 k (by omega)
          obtain ⟨k, rfl⟩ : ∃ q, k = q + 1 := ⟨k - 1, by omega⟩
          obtain ⟨g1, g2⟩ := e6 k (by omega)
          refine ⟨?_, ?_⟩
          · rw [f81]
            simp only [hw, hbf, cond_false, d1, Option.bind_some, hge, spec_open vals' (show vals'.length < k + 1 by omega) (by omega), e, hnl]
            rw [f81_l14]
            rw [show decide ((1 : Int) ≥ -1) = true from rfl]
            simp only [cond_true, spec_clone (show vals'.length ≤ 1048576 by omega), Option.bind_some, hbv, Int.toNat_natCast, hv0, g1, Bool.not_false]
          · rw [f92]
            simp only [hw, hbf, cond_false, d2, Option.bind_some, hge, impl_open vals' (show vals'.length < k + 1 by omega) (by omega), e, hnl, f71]
            rw [f92_l13]
            rw [show decide ((0 : Int) < (([1, -1] : List Int).length : Int)) = true from rfl, show (decide (0 ≤ (0 : Int)) && true) = true from rfl, show (([1, -1] : List Int)[(0 : Int).toNat]?) = some 1 from rfl]
            simp only [cond_true, Option.bind_some, impl_clone (show vals'.length ≤ 1048576 by omega), hbv, Int.toNat_natCast, hv0, g2, Bool.not_false]
        | true =>
          obtain ⟨f1, f2⟩ := e4 rfl
          obtain ⟨b2, m2, F2, p1, p2, p3, p4, ⟨p5, G2, rfl, p7⟩, p6⟩ := ih z' rfl _ v2 (by omega) m1 (F0 ++ G1) e1 f1 f2 e5
          refine ⟨b2, m2, (F0 ++ G1) ++ G2, p1, p2, p3, p4, ⟨p5, G1 ++ G2, List.append_assoc _ _ _, .both (by omega) hP hv0 hfst e7 (by rw [List.length_append] at p7; exact p7)⟩, fun k hk => ?_⟩
          obtain ⟨d1, d2, _⟩ := c4 k (by omega)
          obtain ⟨k, rfl⟩ : ∃ q, k = q + 2 := ⟨k - 2, by omega⟩
          obtain ⟨g1, g2⟩ := e6 (k + 1) (by omega)
          obtain ⟨q1, q2⟩ := p6 (k + 1) (by omega)
          refine ⟨?_, ?_⟩
          · rw [f81]
            simp only [hw, hbf, cond_false, d1, Option.bind_some, hge, spec_open vals' (show vals'.length < k + 2 by omega) (by omega), e, hnl]
            rw [f81_l14]
            rw [show decide ((1 : Int) ≥ -1) = true from rfl]
            simp only [cond_true, spec_clone (show vals'.length ≤ 1048576 by omega), Option.bind_some, hbv, Int.toNat_natCast, hv0, g1, Bool.not_true, cond_false]
            rw [show wr .i64 (1 - 2) = -1 from rfl, f81_l14]
            rw [show decide ((-1 : Int) ≥ -1) = true from rfl]
            simp only [cond_true, spec_clone (show vals'.length ≤ 1048576 by omega), Option.bind_some, hbv, Int.toNat_natCast, hv0, q1]
            cases b2 with
            | false => rfl
            | true =>
              simp only [Bool.not_true, cond_false]
              rw [show wr .i64 (-1 - 2) = -3 from rfl]
              obtain ⟨j, hj⟩ : ∃ j, k = j := ⟨k, rfl⟩
              cases k with
              | zero => omega
              | succ k => simp only [f81_l14]; rfl
          · rw [f92]
            simp only [hw, hbf, cond_false, d2, Option.bind_some, hge, impl_open vals' (show vals'.length < k + 2 by omega) (by omega), e, hnl, f71]
            rw [f92_l13]
            rw [show decide ((0 : Int) < (([1, -1] : List Int).length : Int)) = true from rfl, show (decide (0 ≤ (0 : Int)) && true) = true from rfl, show (([1, -1] : List Int)[(0 : Int).toNat]?) = some 1 from rfl]
            simp only [cond_true, Option.bind_some, impl_clone (show vals'.length ≤ 1048576 by omega), hbv, Int.toNat_natCast, hv0, g2, Bool.not_true, cond_false]
            rw [show wr .i64 (0 + 1) = 1 from rfl, f92_l13]
            rw [show decide ((1 : Int) < (([1, -1] : List Int).length : Int)) = true from rfl, show (decide (0 ≤ (1 : Int)) && true) = true from rfl, show (([1, -1] : List Int)[(1 : Int).toNat]?) = some (-1) from rfl]
            simp only [cond_true, Option.bind_some, impl_clone (show vals'.length ≤ 1048576 by omega), hbv, Int.toNat_natCast, hv0, q2]
            cases b2 with
            | false => rfl
            | true =>
              simp only [Bool.not_true, cond_false]
              rw [show wr .i64 (1 + 1) = 2 from rfl]
              cases k with
              | zero => omega
              | succ k => simp only [f92_l13]; rfl
    · -- a violated rule
      have hge : decide (bad ≥ 0) = true := decide_eq_true hbad
      refine ⟨true, n0 + 1, F0, by omega, by omega, by omega, fun _ => ⟨by omega, hF⟩, ⟨hFl, [], by simp, .clash (by omega) hP hbad⟩, fun k hk => ⟨?_, ?_⟩⟩
      · obtain ⟨d1, _, _⟩ := c4 k (by omega)
        simp only [f81, hw, hbf, cond_false, d1, Option.bind_some, hge, cond_true]
      · obtain ⟨_, d2, _⟩ := c4 k (by omega)
        simp only [f92, hw, hbf, cond_false, d2, Option.bind_some, hge, cond_true, f71]

theorem search {n : Nat} (hn : n ≤ 200) (rules : List Ru) (hR : ∀ r ∈ rules, Rok n r) (hl : rules.length ≤ 3000) (B : Int) (hB : B ≤ 5000) (M : Nat) (h1 : 1 ≤ M) (hM : M ≤ 100) : ∀ (z : Nat) (vals : List Int), Vok n vals → zs vals ≤ z → ∀ (n0 : Int) (F0 : List (List Int)), 0 ≤ n0 → n0 ≤ B → F0.length < M → (∀ x ∈ F0, x.length = n) → Out1 n rules B M z vals n0 F0 := by
  intro z
  induction z with
  | zero =>
    intro vals hv hz n0 F0 h0 hnB hF hFl
    exact search_step hn rules hR hl B hB M h1 hM 0 (fun _ h => absurd h (by omega)) vals hv hz n0 F0 h0 hnB hF hFl
  | succ z ih =>
    intro vals hv hz n0 F0 h0 hnB hF hFl
    exact search_step hn rules hR hl B hB M h1 hM (z + 1) (fun z' h => by obtain rfl : z' = z := by omega
                                                                          exact ih) vals hv hz n0 F0 h0 hnB hF hFl
end Go.Proofs.Ytiilgicmdnllbaa.R
