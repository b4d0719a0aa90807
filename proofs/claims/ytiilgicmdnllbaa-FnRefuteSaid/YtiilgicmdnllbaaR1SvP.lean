/- The draws of refutations end. -/
import Derived.Test.YtiilgicmdnllbaaR1SvM
import Derived.Test.YtiilgicmdnllbaaR1SvI
namespace Go.Proofs.Ytiilgicmdnllbaa.R
open Go.Proofs.Ytiilgicmdnllbaa.R1

theorem rules_same : @f36 = @f36a := by kernel_rfl
theorem e8_same : @f8 = @f8a := by kernel_rfl

theorem pick_gen {k : Nat} {code : List Int} (hc : Bytes code) (hl : code.length ≤ 1048576) {p : Nat} (hp : p + 1 < 2305843009213693952) {s : Int} (hs : St s) {n : Int} (h1 : 1 ≤ n) :
    ∃ (x : Int) (p' : Nat) (s' : Int), 0 ≤ x ∧ x < n ∧ p' ≤ p + 2 ∧ St s' ∧ f37 k n code (p : Int) s = some ((x, ()), ((code, (p' : Int), s', ()), ())) := by
  by_cases h2 : n ≤ 200
  · obtain ⟨x, p', s', a, b, c, d, e⟩ := pick_any (k := k) hc hl (p := p) (by omega) hs h1 h2
    exact ⟨x, p', s', a, b, by omega, d, e⟩
  · have b1 := nb_ok hc p s
    have b2 := nb_ok hc (p + 1) (nb code p s).2
    refine ⟨((nb code p s).1 * 256 + (nb code (p + 1) (nb code p s).2).1) % n, p + 2, (nb code (p + 1) (nb code p s).2).2, Int.emod_nonneg _ (by omega), Int.emod_lt_of_pos _ (by omega), Nat.le_refl _, b2.2.2, ?_⟩
    unfold f37
    rw [show decide (n ≤ 1) = false from dnle (by omega), next_eq hc hl (by omega) hs]
    simp only [cond_false, Option.bind_some]
    rw [show decide (n > 200) = true from decide_eq_true (by omega), show decide (n = 0) = false from decide_eq_false (by omega), next_eq hc hl (by omega) b1.2.2]
    simp only [cond_true, cond_false, Option.bind_some]
    rw [wr_id (x := (nb code p s).1 * 256) (by omega) (by omega), wr_id (by omega) (by omega), Int.tmod_eq_emod_of_nonneg (by omega)]

theorem among_any {k : Nat} {code : List Int} (hc : Bytes code) (hl : code.length ≤ 1048576) {p : Nat} (hp : p + 1 < 2305843009213693952) {s : Int} (hs : St s) {l : List Int} (h1 : l ≠ []) :
    ∃ (y : Int) (p' : Nat) (s' : Int), p' ≤ p + 2 ∧ St s' ∧ f99 k l code (p : Int) s = some ((y, ()), ((code, (p' : Int), s', ()), ())) := by
  have hlen : 1 ≤ (l.length : Int) := by
    cases l with
    | nil => exact absurd rfl h1
    | cons a t => rw [List.length_cons]; omega
  obtain ⟨x, p', s', a, b, c, d, e⟩ := pick_gen (k := k) hc hl hp hs hlen
  obtain ⟨y, f1, f2⟩ := getI_some (l := l) a b
  refine ⟨y, p', s', c, d, ?_⟩
  unfold f99
  rw [e]
  simp only [Option.bind_some, f1]

def Q4 (r : Ru) : Prop := r.2.1.length ≤ 4 ∧ r.2.2.length ≤ 4

theorem q4_of {v : Nat} {r : Ru} (h : vr (v : Int) r = true) : Q4 r := by
  have := rok_of h
  have h1 := this.lv; have h2 := this.k4; have h3 := this.ls
  exact ⟨by omega, by omega⟩

/-- What is drawn: rules, a number of variables, the source behind. -/
def Drawn (code : List Int) (o : Option ((Unit × Int × Unit) × (((List Int) × Int × Int × Unit) × (List Ru) × Unit))) : Prop :=
  ∃ (rs : List Ru) (n : Int) (p : Nat) (s : Int), rs.length ≤ 100 ∧ (∀ r ∈ rs, Q4 r) ∧ p ≤ 45035996480000500 ∧ St s ∧ o = some (((), n, ()), ((code, (p : Int), s, ()), rs, ()))

theorem room56 {l : List Ru} {r : Ru} (h : l.length ≤ 1000) : decide ((l.length + [r].length) * 56 ≤ roomy) = true := decide_eq_true (by simp only [List.length_singleton, roomy]; omega)

theorem bent {code : List Int} (hc : Bytes code) (hl : code.length ≤ 1048576) {p : Nat} {s : Int} (hp : p ≤ 1000) (hs : St s) : Drawn code (f90 KK code (p : Int) s) := by
  obtain ⟨v, rs, p1, s1, v1, v2, r1, r2, r3, r4, r5⟩ := draw_rules hc hl hp hs
  have hQ : ∀ r ∈ rs, Q4 r := fun r hr => q4_of (r2 r hr)
  rw [show CC = 1125899912000010 from rfl] at r3
  obtain ⟨y, p2, s2, y0, y1, d1, d2, d3⟩ := pick_any (k := KK) hc hl (p := p1) (by omega) r4 (n := 12) (by omega) (by omega)
  unfold f90
  rw [rules_same, r5, Option.bind_some, d3, Option.bind_some]
  have app : ∀ r : Ru, Q4 r → ∀ q ∈ rs ++ [r], Q4 q := fun r hr q hq => by
    rcases List.mem_append.1 hq with h | h
    · exact hQ q h
    · rw [List.mem_singleton.1 h]; exact hr
  by_cases h0 : y = 0
  · obtain ⟨z, p3, s3, z0, z1, e1, e2, e3⟩ := pick_any (k := KK) hc hl (p := p2) (by omega) d2 (n := 6) (by omega) (by omega)
    rw [show (y == 0) = true from beq_iff_eq.2 h0]
    rw [cond_true, e3, Option.bind_some, room56 (l := rs) (by omega), cond_true]
    exact ⟨rs ++ [(z, ([], []))], (v : Int), p3, s3, by rw [List.length_append, List.length_singleton]; omega, app _ ⟨by simp, by simp⟩, by omega, e2, rfl⟩
  · rw [show (y == 0) = false from beq_eq_false_iff_ne.2 h0, cond_false]
    have rule : ∃ (kd : Int) (vs ss : List Int) (p' : Nat) (s' : Int), vr (v : Int) (kd, (vs, ss)) = true ∧ p' ≤ p2 + CC ∧ St s' ∧ f38 KK (v : Int) code (p2 : Int) s2 = some (((kd, (), (), ()), ()), ((code, (p' : Int), s', ()), vs, ss, ())) := draw_rule hc hl v1 v2 (by rw [show CC = 1125899912000010 from rfl]; omega) d2
    obtain ⟨kd, vs, ss, p3, s3, g1, g2, g3, g4⟩ := rule
    rw [show CC = 1125899912000010 from rfl] at g2
    have hq := rok_of g1
    have q1 := hq.k1; have q2 := hq.k4; have q3 := hq.lv; have q4 := hq.ls
    simp only at q1 q2 q3 q4
    by_cases h1 : y = 1
    · obtain ⟨z, p4, s4, e1, e2, e3⟩ := among_any (k := KK) hc hl (p := p3) (by omega) g3 (l := [-1, (v : Int), 200]) (by simp)
      rw [show (y == 1) = true from beq_iff_eq.2 h1, cond_true, g4, Option.bind_some, e3, Option.bind_some]
      have hb : (decide (0 ≤ (0 : Nat)) && decide ((0 : Int) < (vs.length : Int))) = true := by rw [dlt (by omega)]; rfl
      rw [hb, cond_true, List.getElem?_eq_getElem (show 0 < vs.length by omega), Option.bind_some, room56 (l := rs) (by omega), cond_true]
      exact ⟨rs ++ [(kd, (vs.set 0 z, ss))], (v : Int), p4, s4, by rw [List.length_append, List.length_singleton]; omega, app _ ⟨by rw [List.length_set]; omega, by simp only; omega⟩, by omega, e2, rfl⟩
    · rw [show (y == 1) = false from beq_eq_false_iff_ne.2 h1, cond_false]
      by_cases h2 : y = 2
      · obtain ⟨z, p4, s4, e1, e2, e3⟩ := among_any (k := KK) hc hl (p := p3) (by omega) g3 (l := [0, 2, 1]) (by simp)
        rw [show (y == 2) = true from beq_iff_eq.2 h2, cond_true, g4, Option.bind_some, e3, Option.bind_some]
        have hb : (decide (0 ≤ (0 : Nat)) && decide ((0 : Int) < (ss.length : Int))) = true := by rw [dlt (by omega)]; rfl
        rw [hb, cond_true, List.getElem?_eq_getElem (show 0 < ss.length by omega), Option.bind_some, room56 (l := rs) (by omega), cond_true]
        exact ⟨rs ++ [(kd, (vs, ss.set 0 z))], (v : Int), p4, s4, by rw [List.length_append, List.length_singleton]; omega, app _ ⟨by simp only; omega, by rw [List.length_set]; omega⟩, by omega, e2, rfl⟩
      · rw [show (y == 2) = false from beq_eq_false_iff_ne.2 h2, cond_false]
        by_cases h3 : y = 3
        · obtain ⟨z, p4, s4, e1, e2, e3⟩ := among_any (k := KK) hc hl (p := p2) (by omega) d2 (l := [-1, 0, 1, 200, 201]) (by simp)
          rw [show (y == 3) = true from beq_iff_eq.2 h3, cond_true, e3, Option.bind_some]
          exact ⟨rs, z, p4, s4, by omega, hQ, by omega, e2, rfl⟩
        · rw [show (y == 3) = false from beq_eq_false_iff_ne.2 h3, cond_false]
          exact ⟨rs, (v : Int), p2, s2, by omega, hQ, by omega, d2, rfl⟩

theorem hard_loop {code : List Int} (hc : Bytes code) (hl : code.length ≤ 1048576) {v : Nat} (hv1 : 1 ≤ v) (hv2 : v ≤ 9) : ∀ (c p : Nat) (s : Int) (acc : List Ru), p + c * CC ≤ 1152921504606846976 → acc.length + c ≤ 100 → St s → (∀ r ∈ acc, Q4 r) →
    ∃ (acc' : List Ru) (p' : Nat) (s' : Int), (∀ r ∈ acc', Q4 r) ∧ acc'.length = acc.length + c ∧ p' ≤ p + c * CC ∧ St s' ∧
      (∀ {ρ : Type} (j : Nat) (nx), c < j → f65_l5 (ρ := ρ) KK j (v : Int) (c : Int) code (p : Int) s acc nx = nx.1 (((), (v : Int), ()), ((code, (p' : Int), s', ()), acc', ())))
  | 0, p, s, acc, hp, ha, hs, hr => ⟨acc, p, s, hr, rfl, by omega, hs, fun {ρ} j nx hj => by
      obtain ⟨j, rfl⟩ : ∃ q, j = q + 1 := ⟨j - 1, by omega⟩
      rfl⟩
  | c + 1, p, s, acc, hp, ha, hs, hr => by
    rw [Nat.add_mul] at hp
    obtain ⟨kd, vs, ss, p1, s1, e1, e2, e3, e4⟩ := draw_rule hc hl hv1 hv2 (p := p) (s := s) (by omega) hs
    obtain ⟨acc', p', s', a1, a2, a3, a4, a5⟩ := hard_loop hc hl hv1 hv2 c p1 s1 (acc ++ [(kd, (vs, ss))]) (by omega) (by rw [List.length_append, List.length_singleton]; omega) e3 (fun r h => by
      rcases List.mem_append.1 h with h | h
      · exact hr r h
      · rw [List.mem_singleton.1 h]; exact q4_of e1)
    have hgt : decide (((c + 1 : Nat) : Int) > 0) = true := decide_eq_true (by omega)
    have hw : wr .i64 (((c + 1 : Nat) : Int) - 1) = (c : Int) := by rw [wr_id (by omega) (by omega)]; omega
    refine ⟨acc', p', s', a1, by rw [a2, List.length_append, List.length_singleton]; omega, by rw [Nat.add_mul]; omega, a4, fun {ρ} j nx hj => ?_⟩
    obtain ⟨j, rfl⟩ : ∃ q, j = q + 1 := ⟨j - 1, by omega⟩
    simp only [f65_l5, hgt, cond_true, e4, Option.bind_some, room56 (show acc.length ≤ 1000 by omega), hw]
    exact a5 j nx (by omega)

theorem draw_hard {code : List Int} (hc : Bytes code) (hl : code.length ≤ 1048576) : Drawn code (f65 KK code 0 0) := by
  obtain ⟨y, p1, s1, y0, y1, d1, d2, d3⟩ := pick_any (k := KK) hc hl (p := 0) (by omega) (s := 0) ⟨by omega, by omega⟩ (n := 8) (by omega) (by omega)
  have d4 : f37 KK 8 code 0 0 = _ := d3
  unfold f65 f89
  rw [d4, Option.bind_some, Option.bind_some]
  cases y == 0 with
  | true =>
    obtain ⟨rs, n, p, s, a1, a2, a3, a4, a5⟩ := bent hc hl (p := p1) (s := s1) (by omega) d2
    rw [cond_true, a5, Option.bind_some]
    exact ⟨rs, n, p, s, a1, a2, a3, a4, rfl⟩
  | false =>
    obtain ⟨v, rs, p2, s2, v1, v2, r1, r2, r3, r4, r5⟩ := draw_rules hc hl (p := p1) (s := s1) (by omega) d2
    rw [show CC = 1125899912000010 from rfl] at r3
    obtain ⟨z, p3, s3, z0, z1, e1, e2, e3⟩ := pick_any (k := KK) hc hl (p := p2) (by omega) r4 (n := 12) (by omega) (by omega)
    obtain ⟨c, rfl⟩ : ∃ c : Nat, z = (c : Int) := ⟨z.toNat, by omega⟩
    have hcc : c * CC ≤ 11 * CC := Nat.mul_le_mul_right _ (by omega)
    obtain ⟨acc, p4, s4, a1, a2, a3, a4, a5⟩ := hard_loop hc hl v1 v2 c p3 s3 rs (by rw [show CC = 1125899912000010 from rfl] at *; omega) (by omega) e2 (fun r hr => q4_of (r2 r hr))
    have hK : 100 < KK := by unfold KK; omega
    refine ⟨acc, (v : Int), p4, s4, by omega, a1, by rw [show CC = 1125899912000010 from rfl] at *; omega, a4, ?_⟩
    generalize KK = K at hK r5 e3 a5 ⊢
    rw [cond_false, rules_same, r5, Option.bind_some, e3, Option.bind_some]
    rw [a5 K _ (by omega)]

theorem j8 {code : List Int} (hc : Bytes code) (hl : code.length ≤ 1048576) {p : Nat} {s : Int} (hp : p ≤ 45035996480000500) (hs : St s) (rs : List Ru) (n : Int) (N : List Nd) (hN : N.length ≤ 200000) {ρ : Type} (nx) :
    ∃ N' : List Nd, f34_j8 (ρ := ρ) KK rs n code (p : Int) s N nx = nx.1 ((rs, n, (), ()), (N', ())) := by
  obtain ⟨y, p1, s1, y0, y1, d1, d2, d3⟩ := pick_any (k := KK) hc hl (p := p) (by omega) hs (n := 6) (by omega) (by omega)
  unfold f34_j8
  rw [d3, Option.bind_some]
  by_cases h0 : y = 0
  · rw [show (y == 0) = true from beq_iff_eq.2 h0, cond_true]
    by_cases hn : (N.length : Int) > 0
    · rw [show decide ((N.length : Int) > 0) = true from decide_eq_true hn, cond_true, wr_id (by omega) (by omega), dle (show (0 : Int) ≤ (N.length : Int) - 1 by omega), dle (show (N.length : Int) - 1 ≤ (N.length : Int) by omega)]
      exact ⟨_, rfl⟩
    · rw [show decide ((N.length : Int) > 0) = false from decide_eq_false hn, cond_false]
      exact ⟨_, rfl⟩
  · rw [show (y == 0) = false from beq_eq_false_iff_ne.2 h0, cond_false]
    by_cases h1 : y = 1
    · obtain ⟨z, p3, s3, z0, z1, e1, e2, e3⟩ := pick_any (k := KK) hc hl (p := p1) (by omega) d2 (n := 4) (by omega) (by omega)
      rw [show (y == 1) = true from beq_iff_eq.2 h1, cond_true, e3, Option.bind_some]
      have room : decide ((N.length + [((wr .i64 (1 + z)), ((0 : Nat), ((0 : Nat), (0 : Nat))))].length) * 32 ≤ roomy) = true := decide_eq_true (by simp only [List.length_singleton, roomy]; omega)
      rw [room, cond_true]
      exact ⟨_, rfl⟩
    · rw [show (y == 1) = false from beq_eq_false_iff_ne.2 h1, cond_false]
      by_cases h2 : y = 2
      · rw [show (y == 2) = true from beq_iff_eq.2 h2, cond_true]
        by_cases hn : (N.length : Int) > 0
        · obtain ⟨i, p2, s2, i0, i1, f1, f2, f3⟩ := pick_gen (k := KK) hc hl (p := p1) (by omega) d2 (n := (N.length : Int)) (by omega)
          obtain ⟨z, p3, s3, z0, z1, e1, e2, e3⟩ := pick_any (k := KK) hc hl (p := p2) (by omega) f2 (n := 4) (by omega) (by omega)
          rw [show decide ((N.length : Int) > 0) = true from decide_eq_true hn, cond_true, f3, Option.bind_some, e3, Option.bind_some]
          have hb := bndI i0 i1
          have hg := List.getElem?_eq_getElem (l := N) (i := i.toNat) (by omega)
          by_cases c0 : z = 0
          · obtain ⟨u, p4, s4, u0, u1, g1, g2, g3⟩ := pick_any (k := KK) hc hl (p := p3) (by omega) e2 (n := 3) (by omega) (by omega)
            rw [show (z == 0) = true from beq_iff_eq.2 c0, cond_true]
            simp only [hb, cond_true, hg, Option.bind_some, g3]
            exact ⟨_, rfl⟩
          · rw [show (z == 0) = false from beq_eq_false_iff_ne.2 c0, cond_false]
            by_cases c1 : z = 1
            · rw [show (z == 1) = true from beq_iff_eq.2 c1, cond_true]
              simp only [hb, cond_true, hg, Option.bind_some]
              exact ⟨_, rfl⟩
            · rw [show (z == 1) = false from beq_eq_false_iff_ne.2 c1, cond_false]
              by_cases c2 : z = 2
              · rw [show (z == 2) = true from beq_iff_eq.2 c2, cond_true]
                simp only [hb, cond_true, hg, Option.bind_some]
                exact ⟨_, rfl⟩
              · obtain ⟨u, p4, s4, u0, u1, g1, g2, g3⟩ := pick_any (k := KK) hc hl (p := p3) (by omega) e2 (n := 5) (by omega) (by omega)
                rw [show (z == 2) = false from beq_eq_false_iff_ne.2 c2, cond_false]
                simp only [g3, hb, cond_true, hg, Option.bind_some]
                exact ⟨_, rfl⟩
        · rw [show decide ((N.length : Int) > 0) = false from decide_eq_false hn, cond_false]
          exact ⟨_, rfl⟩
      · rw [show (y == 2) = false from beq_eq_false_iff_ne.2 h2, cond_false]
        exact ⟨_, rfl⟩

theorem draw_check {code : List Int} (hc : Bytes code) (hl : code.length ≤ 1048576) : ∃ (rs : List Ru) (n : Int) (N : List Nd), rs.length ≤ 100 ∧ (∀ r ∈ rs, Q4 r) ∧ f34 KK code = some ((rs, n, (), ()), (N, ())) := by
  obtain ⟨rs, n, p, s, a1, a2, a3, a4, a5⟩ := draw_hard hc hl
  have hv := spec_valid KK rs n (by unfold KK; omega) (by unfold KK; omega) (fun r hr => by have := a2 r hr; unfold Q4 at this; unfold lens KK; omega)
  have J := fun N hN nx => j8 (ρ := (((List Ru) × Int × Unit × Unit) × ((List Nd) × Unit))) hc hl a3 a4 rs n N hN nx
  have hR := fun (h : valid rs n = true) => refute_pair h (B := 500) (by omega) (by omega)
  have hK : 4000 ≤ KK := by unfold KK; omega
  generalize KK = K at hK hv a5 J ⊢
  unfold f34 f35
  rw [Option.bind_some, a5, Option.bind_some, hv, Option.bind_some]
  cases hval : valid rs n with
  | true =>
    obtain ⟨b, st, c, n1, N, ⟨f1, f2, _⟩, f3⟩ := hR hval
    obtain ⟨⟨w, g1⟩, _⟩ := f3 K hK
    obtain ⟨r1, r2, _, _⟩ := roks_of hval
    obtain ⟨N', e⟩ := J N (by omega) (fun x38 => some ((x38.1.1, x38.1.2.1, (), ()), (x38.2.1, ())), ())
    refine ⟨rs, n, N', a1, a2, ?_⟩
    rw [cond_true, room r1 r2, cond_true, g1, Option.bind_some]
    exact e
  | false =>
    obtain ⟨N', e⟩ := J [] (by simp) (fun x39 => some ((x39.1.1, x39.1.2.1, (), ()), (x39.2.1, ())), ())
    refine ⟨rs, n, N', a1, a2, ?_⟩
    rw [cond_false]
    exact e
end Go.Proofs.Ytiilgicmdnllbaa.R
