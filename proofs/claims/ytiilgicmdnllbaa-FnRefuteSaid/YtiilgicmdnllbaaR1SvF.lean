/- The refutations go the same way. -/
import Derived.Test.YtiilgicmdnllbaaR1SvH
namespace Go.Proofs.Ytiilgicmdnllbaa.R
open Go.Proofs.Ytiilgicmdnllbaa.R1

abbrev Nd := Int × (Int × (Int × Int))

theorem spec_nodes {ρ : Type} (self) (k : Nat) (bad : Int) (rules : List Ru) (B n1 code : Int) (vals : List Int) (st : List (Int × (Int × Int))) (hst : st.length ≤ 200) (nx) : ∀ (rest : List (Int × (Int × Int))) (i : Nat), st.drop i = rest → ∀ j, rest.length < j → ∀ nodes : List Nd, nodes.length + rest.length ≤ 1099511627776 →
    f60_l5 (ρ := ρ) self k j bad (i : Int) rules B n1 code vals st nodes nx = nx.1 (((), (), bad, ()), ((rules, B, n1, (), code, ()), vals, nodes ++ rest.map nd, ()))
  | [], i, h, j, hj, nodes, hN => by
    obtain ⟨j, rfl⟩ : ∃ q, j = q + 1 := ⟨j - 1, by simp at hj; omega⟩
    simp only [f60_l5, out_nil h, cond_false, List.map_nil, List.append_nil]
  | p :: rest, i, h, j, hj, nodes, hN => by
    obtain ⟨j, rfl⟩ : ∃ q, j = q + 1 := ⟨j - 1, by simp at hj; omega⟩
    have hlt := lt_cons h
    simp only [List.length_cons] at hN
    simp only [f60_l5, in_cons h, cond_true, dle (show (0 : Int) ≤ (i : Int) by omega), Bool.and_self, Int.toNat_natCast, at_cons h, Option.bind_some, wr_succ (show i < 4611686018427387904 by omega)]
    rw [show decide ((nodes.length + [((2 : Nat), (p.2.1, (p.2.2, p.1)))].length) * 32 ≤ roomy) = true from decide_eq_true (by simp only [List.length_singleton, roomy]; omega)]
    simp only [cond_true]
    rw [spec_nodes self k bad rules B n1 code vals st hst nx rest (i + 1) (next_cons h) j (by simpa using hj) _ (by rw [List.length_append, List.length_singleton]; omega)]
    simp only [List.map_cons, List.append_assoc, List.singleton_append, nd]

/-- How a search for a refutation ends: it goes on, the budget is spent, or a solution is there. -/
def ends (b s : Bool) (c n1 B : Int) : Prop := (b = true ∧ s = false ∧ c = 0 ∧ n1 ≤ B) ∨ (b = false ∧ s = false ∧ c = 10 ∧ n1 > B) ∨ (b = false ∧ s = true ∧ c = 6 ∧ n1 ≤ B)

/-- What a refutation is. -/
inductive Rf (n : Nat) (rules : List Ru) : List Int → List Nd → Prop
  | clash {vals bad w st} : Pr n rules vals bad w st → 0 ≤ bad → Rf n rules vals (st.map nd ++ [(3, (0, (0, bad)))])
  | branch {vals w st N1 N2} {v : Nat} : Pr n rules vals (-1) w st → w[v]? = some 0 → Rf n rules (w.set v 1) N1 → Rf n rules (w.set v (-1)) N2 → Rf n rules vals (st.map nd ++ (1, ((v : Int), (0, 0))) :: (N1 ++ N2))

def Out2 (n : Nat) (rules : List Ru) (B : Int) (z : Nat) (vals : List Int) (n0 : Int) (N0 : List Nd) : Prop :=
    ∃ (b s : Bool) (c n1 : Int) (N : List Nd), ends b s c n1 B ∧ 0 ≤ n1 ∧ n1 ≤ B + 1 ∧ (N.length : Int) ≤ 201 * n1 ∧ (∃ X, N = N0 ++ X ∧ (b = true → Rf n rules vals X) ∧ ∃ G, Srch n rules B 1 0 vals n0 b n1 G ∧ (G = [] ↔ s = false)) ∧ ∀ k, 3300 + z ≤ k →
      (∃ w, f60 (k + 1) rules B n0 0 N0 vals = some ((), ((rules, B, n1, (), c, ()), w, N, ()))) ∧
      (∃ w, f92a (k + 1) rules B n0 false N0 vals = some ((b, ()), ((rules, B, n1, ((), ()), ((), ()), ()), (s, ()), ((), ()), w, N, ())))

theorem refute_step {n : Nat} (hn : n ≤ 200) (rules : List Ru) (hR : ∀ r ∈ rules, Rok n r) (hl : rules.length ≤ 3000) (B : Int) (hB : B ≤ 5000) (z : Nat)
    (ih : ∀ z', z' + 1 = z → ∀ (vals : List Int), Vok n vals → zs vals ≤ z' → ∀ (n0 : Int) (N0 : List Nd), 0 ≤ n0 → n0 ≤ B → (N0.length : Int) ≤ 201 * n0 → Out2 n rules B z' vals n0 N0)
    (vals : List Int) (hv : Vok n vals) (hz : zs vals ≤ z) (n0 : Int) (N0 : List Nd) (h0 : 0 ≤ n0) (hnB : n0 ≤ B) (hN : (N0.length : Int) ≤ 201 * n0) : Out2 n rules B z vals n0 N0 := by
  have hw : wr .i64 (n0 + 1) = n0 + 1 := wr_id (by omega) (by omega)
  by_cases hb : n0 + 1 > B
  · refine ⟨false, false, 10, n0 + 1, N0, .inr (.inl ⟨rfl, rfl, rfl, hb⟩), by omega, by omega, by omega, ⟨[], by simp, fun h => (by cases h), [], .spent hb, by simp⟩, fun k hk => ⟨⟨vals, ?_⟩, ⟨vals, ?_⟩⟩⟩
    · simp only [f60, hw]
      rw [show decide (n0 + 1 > B) = true from decide_eq_true hb]; rfl
    · simp only [f92a, hw]
      rw [show decide (n0 + 1 > B) = true from decide_eq_true hb]; rfl
  · have hbf : decide (n0 + 1 > B) = false := decide_eq_false hb
    obtain ⟨bad, vals', st, c1, c2, c3, c4⟩ := props hn rules hR hl vals hv
    have hzs := zs_le vals
    rw [hv.l] at hzs
    have hstl : st.length ≤ 200 := by omega
    have nodesAt := fun (k : Nat) (hk : 3300 ≤ k) nx => spec_nodes (ρ := Unit × ((List Ru × Int × Int × Unit × Int × Unit) × (List Int) × (List Nd) × Unit)) (f60 k) k bad rules B (n0 + 1) 0 vals' st hstl nx st 0 rfl k (by omega) N0 (by omega)
    obtain ⟨c3, c5, c6⟩ := c3
    have hP : Pr n rules vals bad vals' st := ⟨fun k hk => (c4 k hk).1, c1, c5, c6⟩
    rcases c3 with rfl | hbad
    · have hlen : vals'.length ≤ 200 := by rw [c1.l]; exact hn
      have hge : decide ((-1 : Int) ≥ 0) = false := rfl
      rcases fop_at (l := vals') (i := 0) with e | ⟨v, e, hv0⟩
      · refine ⟨false, true, 6, n0 + 1, N0 ++ st.map nd, .inr (.inr ⟨rfl, rfl, rfl, by omega⟩), by omega, by omega, by rw [List.length_append, List.length_map]; omega, ⟨st.map nd, rfl, fun h => (by cases h), [vals'], Srch.found (M := 1) (c := 0) (B := B) (n0 := n0) (by omega) hP (fop_none e), by simp⟩, fun k hk => ⟨⟨vals', ?_⟩, ⟨vals', ?_⟩⟩⟩
        · obtain ⟨d1, _, _⟩ := c4 k (by omega)
          simp only [f60, hw, hbf, cond_false, d1, Option.bind_some]
          refine (nodesAt k (by omega) _).trans ?_
          simp only [hge, cond_false, spec_open vals' (show vals'.length < k by omega) (by omega), Option.bind_some, e]
          rfl
        · obtain ⟨_, _, d3⟩ := c4 k (by omega)
          simp only [f92a, hw, hbf, cond_false, d3 rules B (n0 + 1) false N0 (by omega), Option.bind_some, hge, impl_open vals' (show vals'.length < k by omega) (by omega), e, f87]
          rfl
      · have hfst := fop_first (j := v) e
        rw [Nat.zero_add] at e
        have hvl : v < vals'.length := by
          rcases Nat.lt_or_ge v vals'.length with q | q
          · exact q
          · rw [List.getElem?_eq_none q] at hv0; cases hv0
        have z1 := zs_set hv0 (x := 1) (by omega)
        have z2 := zs_set hv0 (x := -1) (by omega)
        obtain ⟨z', rfl⟩ : ∃ q, z = q + 1 := ⟨z - 1, by omega⟩
        have v1 := c1.set v (x := 1) (.inr (.inr rfl))
        have v2 := c1.set v (x := -1) (.inl rfl)
        have hbv := bnd hvl
        have hnl : decide ((v : Int) < 0) = false := dnlt (by omega)
        have hNl : ((N0 ++ st.map nd).length : Int) + 1 ≤ 201 * (n0 + 1) := by rw [List.length_append, List.length_map]; omega
        have hroom : decide (((N0 ++ st.map nd).length + [((1 : Nat), ((v : Int), ((0 : Nat), (0 : Nat))))].length) * 32 ≤ roomy) = true := decide_eq_true (by simp only [List.length_singleton, roomy]; omega)
        have htell := fun (k : Nat) => impl_tell (k := k) (a := 1) (b := (v : Int)) (c := 0) (d := 0) (l := N0 ++ st.map nd) (by omega)
        obtain ⟨b1, s1, cc1, m1, N1, e1, e2, e3, e4, ⟨X1, eX, e7, G1, e8, e9⟩, e6⟩ := ih z' rfl _ v1 (by omega) (n0 + 1) (N0 ++ st.map nd ++ [(1, ((v : Int), (0, 0)))]) (by omega) (by omega) (by rw [List.length_append, List.length_singleton]; omega)
        by_cases hb1 : b1 = false
        · subst hb1
          have hc1 : (cc1 == 0) = false := by
            rcases e1 with ⟨h, _⟩ | ⟨_, _, h, _⟩ | ⟨_, _, h, _⟩
            · cases h
            · rw [h]; rfl
            · rw [h]; rfl
          refine ⟨false, s1, cc1, m1, N1, e1, e2, e3, e4, ⟨st.map nd ++ (1, ((v : Int), (0, 0))) :: X1, by rw [eX]; simp, fun h => (by cases h), G1, .stop (by omega) hP hv0 hfst e8, e9⟩, fun k hk => ?_⟩
          obtain ⟨d1, _, d3⟩ := c4 k (by omega)
          have nA := nodesAt k (by omega)
          obtain ⟨k, rfl⟩ : ∃ q, k = q + 2 := ⟨k - 2, by omega⟩
          obtain ⟨⟨w1, g1⟩, ⟨w2, g2⟩⟩ := e6 (k + 1) (by omega)
          refine ⟨⟨vals', ?_⟩, ⟨vals', ?_⟩⟩
          · rw [f60]
            simp only [hw, hbf, cond_false, d1, Option.bind_some]
            refine (nA _).trans ?_
            simp only [hge, cond_false, spec_open vals' (show vals'.length < k + 2 by omega) (by omega), Option.bind_some, e, hnl, hroom, cond_true]
            rw [f60_l15]
            rw [show decide ((1 : Int) ≥ -1) = true from rfl, show ((0 : Int) == 0) = true from rfl]
            simp only [cond_true, spec_clone (show vals'.length ≤ 1048576 by omega), Option.bind_some, hbv, Int.toNat_natCast, hv0, g1]
            rw [show wr .i64 (1 - 2) = -1 from rfl, f60_l15]
            rw [show decide ((-1 : Int) ≥ -1) = true from rfl]
            simp only [cond_true, hc1, cond_false]
          · rw [f92a]
            simp only [hw, hbf, cond_false, d3 rules B (n0 + 1) false N0 (by omega), Option.bind_some, hge, impl_open vals' (show vals'.length < k + 2 by omega) (by omega), e, hnl, htell]
            rw [f92a_l13]
            rw [show decide ((0 : Int) < (([1, -1] : List Int).length : Int)) = true from rfl, show (decide (0 ≤ (0 : Int)) && true) = true from rfl, show (([1, -1] : List Int)[(0 : Int).toNat]?) = some 1 from rfl]
            simp only [cond_true, Option.bind_some, impl_clone (show vals'.length ≤ 1048576 by omega), hbv, Int.toNat_natCast, hv0, g2, Bool.not_false]
        · have hbt : b1 = true := by cases b1 <;> first | rfl | exact absurd rfl hb1
          subst hbt
          obtain ⟨rfl, rfl, hm1⟩ : s1 = false ∧ cc1 = 0 ∧ m1 ≤ B := by
            rcases e1 with ⟨_, h1, h2, h3⟩ | ⟨h, _⟩ | ⟨h, _⟩
            · exact ⟨h1, h2, h3⟩
            · cases h
            · cases h
          obtain rfl : G1 = [] := e9.2 rfl
          obtain ⟨b2, s2, cc2, m2, N2, p1, p2, p3, p4, ⟨X2, eX2, p7, G2, p8, p9⟩, p6⟩ := ih z' rfl _ v2 (by omega) m1 N1 e2 hm1 e4
          refine ⟨b2, s2, cc2, m2, N2, p1, p2, p3, p4, ⟨st.map nd ++ (1, ((v : Int), (0, 0))) :: (X1 ++ X2), by rw [eX2, eX]; simp, fun h => .branch hP hv0 (e7 rfl) (p7 h), [] ++ G2, .both (by omega) hP hv0 hfst e8 p8, p9⟩, fun k hk => ?_⟩
          obtain ⟨d1, _, d3⟩ := c4 k (by omega)
          have nA := nodesAt k (by omega)
          obtain ⟨k, rfl⟩ : ∃ q, k = q + 3 := ⟨k - 3, by omega⟩
          obtain ⟨⟨w1, g1⟩, ⟨w2, g2⟩⟩ := e6 (k + 2) (by omega)
          obtain ⟨⟨w3, q1⟩, ⟨w4, q2⟩⟩ := p6 (k + 2) (by omega)
          refine ⟨⟨vals', ?_⟩, ⟨vals', ?_⟩⟩
          · rw [f60]
            simp only [hw, hbf, cond_false, d1, Option.bind_some]
            refine (nA _).trans ?_
            simp only [hge, cond_false, spec_open vals' (show vals'.length < k + 3 by omega) (by omega), Option.bind_some, e, hnl, hroom, cond_true]
            rw [f60_l15]
            rw [show decide ((1 : Int) ≥ -1) = true from rfl, show ((0 : Int) == 0) = true from rfl]
            simp only [cond_true, spec_clone (show vals'.length ≤ 1048576 by omega), Option.bind_some, hbv, Int.toNat_natCast, hv0, g1]
            rw [show wr .i64 (1 - 2) = -1 from rfl, f60_l15]
            rw [show decide ((-1 : Int) ≥ -1) = true from rfl, show ((0 : Int) == 0) = true from rfl]
            simp only [cond_true, spec_clone (show vals'.length ≤ 1048576 by omega), Option.bind_some, hbv, Int.toNat_natCast, hv0, q1]
            rw [show wr .i64 (-1 - 2) = -3 from rfl, f60_l15]
            rw [show decide ((-3 : Int) ≥ -1) = false from rfl]
            rfl
          · rw [f92a]
            simp only [hw, hbf, cond_false, d3 rules B (n0 + 1) false N0 (by omega), Option.bind_some, hge, impl_open vals' (show vals'.length < k + 3 by omega) (by omega), e, hnl, htell]
            rw [f92a_l13]
            rw [show decide ((0 : Int) < (([1, -1] : List Int).length : Int)) = true from rfl, show (decide (0 ≤ (0 : Int)) && true) = true from rfl, show (([1, -1] : List Int)[(0 : Int).toNat]?) = some 1 from rfl]
            simp only [cond_true, Option.bind_some, impl_clone (show vals'.length ≤ 1048576 by omega), hbv, Int.toNat_natCast, hv0, g2, Bool.not_true, cond_false]
            rw [show wr .i64 (0 + 1) = 1 from rfl, f92a_l13]
            rw [show decide ((1 : Int) < (([1, -1] : List Int).length : Int)) = true from rfl, show (decide (0 ≤ (1 : Int)) && true) = true from rfl, show (([1, -1] : List Int)[(1 : Int).toNat]?) = some (-1) from rfl]
            simp only [cond_true, Option.bind_some, impl_clone (show vals'.length ≤ 1048576 by omega), hbv, Int.toNat_natCast, hv0, q2]
            cases b2 with
            | false => rfl
            | true =>
              simp only [Bool.not_true, cond_false]
              rw [show wr .i64 (1 + 1) = 2 from rfl, f92a_l13]
              rfl
    · have hge : decide (bad ≥ 0) = true := decide_eq_true hbad
      have htell := fun (k : Nat) => impl_tell (k := k) (a := 3) (b := 0) (c := 0) (d := bad) (l := N0 ++ st.map nd) (by rw [List.length_append, List.length_map]; omega)
      have hroom : decide (((N0 ++ st.map nd).length + [((3 : Nat), ((0 : Nat), ((0 : Nat), bad)))].length) * 32 ≤ roomy) = true := decide_eq_true (by simp only [List.length_singleton, List.length_append, List.length_map, roomy]; omega)
      refine ⟨true, false, 0, n0 + 1, N0 ++ st.map nd ++ [(3, (0, (0, bad)))], .inl ⟨rfl, rfl, rfl, by omega⟩, by omega, by omega, by simp only [List.length_append, List.length_map, List.length_singleton]; omega, ⟨st.map nd ++ [(3, (0, (0, bad)))], by simp, fun _ => .clash hP hbad, [], .clash (by omega) hP hbad, by simp⟩, fun k hk => ⟨⟨vals', ?_⟩, ⟨vals', ?_⟩⟩⟩
      · obtain ⟨d1, _, _⟩ := c4 k (by omega)
        simp only [f60, hw, hbf, cond_false, d1, Option.bind_some]
        refine (nodesAt k (by omega) _).trans ?_
        simp only [hge, cond_true, hroom]
      · obtain ⟨_, _, d3⟩ := c4 k (by omega)
        simp only [f92a, hw, hbf, cond_false, d3 rules B (n0 + 1) false N0 (by omega), Option.bind_some, hge, cond_true, htell]

theorem refutes {n : Nat} (hn : n ≤ 200) (rules : List Ru) (hR : ∀ r ∈ rules, Rok n r) (hl : rules.length ≤ 3000) (B : Int) (hB : B ≤ 5000) : ∀ (z : Nat) (vals : List Int), Vok n vals → zs vals ≤ z → ∀ (n0 : Int) (N0 : List Nd), 0 ≤ n0 → n0 ≤ B → (N0.length : Int) ≤ 201 * n0 → Out2 n rules B z vals n0 N0 := by
  intro z
  induction z with
  | zero =>
    intro vals hv hz n0 N0 h0 hnB hN
    exact refute_step hn rules hR hl B hB 0 (fun _ h => absurd h (by omega)) vals hv hz n0 N0 h0 hnB hN
  | succ z ih =>
    intro vals hv hz n0 N0 h0 hnB hN
    exact refute_step hn rules hR hl B hB (z + 1) (fun z' h => by obtain rfl : z' = z := by omega
                                                                  exact ih) vals hv hz n0 N0 h0 hnB hN
end Go.Proofs.Ytiilgicmdnllbaa.R
