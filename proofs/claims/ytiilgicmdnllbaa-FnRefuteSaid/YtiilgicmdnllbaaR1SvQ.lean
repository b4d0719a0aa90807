/- Rules either have a solution or a refutation that is accepted; what is accepted is a refutation. -/
import Derived.Test.YtiilgicmdnllbaaR1SvN
import Derived.Test.YtiilgicmdnllbaaR1SvO
import Derived.Test.YtiilgicmdnllbaaR1SvP
namespace Go.Proofs.Ytiilgicmdnllbaa.R
open Go.Proofs.Ytiilgicmdnllbaa.R1

theorem ext_zeros {v : Nat} (x : List Int) : Ext v (List.replicate v 0) x := fun u u0 u1 q => by
  refine absurd ?_ q
  have := vat_get (a := List.replicate v (0 : Int)) (n := v) (by simp) (v := u.toNat) (by omega)
  rw [List.getElem?_replicate, if_pos (by omega), show ((u.toNat : Nat) : Int) = u by omega] at this
  exact (Option.some.inj this).symm

/-- What the check of a refutation says. -/
theorem check_run {k : Nat} (hk : 100000 ≤ k) (hk2 : k ≤ 4611686018427387904) {rs : List Ru} (hl : rs.length < k) (hq : ∀ r ∈ rs, lens k r) (n : Int) (N : List Nd) :
    ∃ ok, f32 k rs n N = some ((ok, ()), ()) ∧ (ok = true → valid rs n = true ∧ ∀ x, Sol n.toNat rs x → False) := by
  unfold f32
  rw [impl_valid k rs n hk2 hl hq, Option.bind_some]
  cases hv : valid rs n with
  | false => exact ⟨false, rfl, fun h => (by cases h)⟩
  | true =>
    obtain ⟨r1, r2, r3, r4⟩ := roks_of hv
    by_cases hN : (N.length : Int) ≤ 4000
    · rw [cond_true, dle hN, cond_true]
      unfold f63
      rw [room r1 r2, cond_true]
      obtain ⟨rest, ok, w, e1, e2, e3⟩ := ref_sound (n := n.toNat) (by omega) r4 r3 N.length N (Nat.le_refl _) _ (zeros_ok n.toNat) k (by omega)
      rw [e1, Option.bind_some]
      cases ok with
      | false => exact ⟨false, rfl, fun h => (by cases h)⟩
      | true => exact ⟨(rest.length : Int) == 0, rfl, fun _ => ⟨rfl, fun x hx => (e3 rfl).2 x hx (ext_zeros x)⟩⟩
    · rw [cond_true, dnle (show (4000 : Int) < (N.length : Int) by omega)]
      exact ⟨false, rfl, fun h => (by cases h)⟩

theorem check_true {k : Nat} (hk : 100000 ≤ k) (hk2 : k ≤ 4611686018427387904) {rs : List Ru} {n : Int} (hv : valid rs n = true) {N : List Nd} (hN : (N.length : Int) ≤ 4000) (h : Rf n.toNat rs (List.replicate n.toNat 0) N) :
    f32 k rs n N = some ((true, ()), ()) := by
  obtain ⟨r1, r2, r3, r4⟩ := roks_of hv
  unfold f32
  rw [impl_valid k rs n hk2 (by omega) (lens_of r4 (by omega)), Option.bind_some, hv, cond_true, dle hN, cond_true]
  unfold f63
  rw [room r1 r2, cond_true]
  have hz := zs_le (List.replicate n.toNat (0 : Int))
  rw [List.length_replicate] at hz
  obtain ⟨u, e⟩ := ref_accept (n := n.toNat) (by omega) r4 r3 h (zeros_ok n.toNat) [] k (by omega)
  rw [List.append_nil] at e
  rw [e]; rfl

theorem depth_run {k : Nat} (hk : 100000 ≤ k) {rs : List Ru} {n : Int} (hv : valid rs n = true) {N : List Nd} (hN : (N.length : Int) ≤ 4000) (h : Rf n.toNat rs (List.replicate n.toNat 0) N) :
    ∃ d : Int, 0 ≤ d ∧ d ≤ n ∧ f33 k N = some ((d, ()), ()) := by
  obtain ⟨r1, r2, r3, r4⟩ := roks_of hv
  have hz := zs_le (List.replicate n.toNat (0 : Int))
  rw [List.length_replicate] at hz
  obtain ⟨d, d0, d1, e⟩ := depth_ok (n := n.toNat) (by omega) h (zeros_ok n.toNat)
  have e := e [] k (by omega)
  rw [List.append_nil] at e
  refine ⟨d, d0, by omega, ?_⟩
  unfold f33
  rw [show decide ((N.length : Int) > 4000) = false from decide_eq_false (by omega), e]
  rfl

/-- The reference's first solution, where there is none. -/
theorem spec_none {k : Nat} (hk : 100000 ≤ k) (hk2 : k ≤ 4611686018427387904) {rs : List Ru} {n : Int} (hv : valid rs n = true) (hno : ∀ x, Sol n.toNat rs x → False) :
    ∃ c F, (c = 8 ∨ c = 10) ∧ f16 k rs n 5000 = some (((), c, ()), (F, ())) := by
  obtain ⟨r1, r2, r3, r4⟩ := roks_of hv
  obtain ⟨n1, F, ⟨f1, b, f4⟩, f2, f3⟩ := solve_pair hv (B := 5000) (by omega) (by omega) (M := 1) (by omega) (by omega)
  have S := srch_sem r4 f4 (zeros_ok n.toNat)
  obtain ⟨g1, _⟩ := f3 k (by omega)
  have g3 : f56 k rs n 5000 1 = _ := g1
  unfold f16 f55
  rw [spec_valid k rs n hk2 (by omega) (lens_of r4 (by omega)), hv]
  rw [Option.bind_some, cond_true, spec_in, show (decide ((1 : Int) ≤ 5000) && decide ((5000 : Int) ≤ 5000)) = true from rfl, Option.bind_some, Option.bind_some, g3]
  have hF : F = [] := by
    cases F with
    | nil => rfl
    | cons x F => exact (hno x (S.s x (List.mem_cons.2 (.inl rfl))).1).elim
  subst hF
  by_cases hn : n1 > 5000
  · refine ⟨10, [], .inr rfl, ?_⟩
    simp only [Bool.not_true, cond_false, Option.bind_some]
    rw [show decide (n1 > 5000) = true from decide_eq_true hn]; rfl
  · refine ⟨8, [], .inl rfl, ?_⟩
    simp only [Bool.not_true, cond_false, Option.bind_some]
    rw [show decide (n1 > 5000) = false from decide_eq_false hn]; rfl

theorem more_law {code : List Int} (hc : Bytes code) (hl : code.length ≤ 1048576) {ρ : Type} (nx) : f7_j14 (ρ := ρ) KK code nx = nx.1 ((true, ()), ()) := by
  obtain ⟨rs, n, N, a1, a2, a3⟩ := draw_check hc hl
  have hk : 100000 ≤ KK := by unfold KK; omega
  have hk2 : KK ≤ 4611686018427387904 := by unfold KK; omega
  generalize KK = K at hk hk2 a3 ⊢
  unfold f7_j14
  obtain ⟨ok, e1, e2⟩ := check_run hk hk2 (rs := rs) (by omega) (fun r hr => by have := a2 r hr; unfold Q4 at this; unfold lens; omega) n N
  rw [a3, Option.bind_some, e1, Option.bind_some]
  cases ok with
  | false => rfl
  | true =>
    obtain ⟨hv, hno⟩ := e2 rfl
    obtain ⟨c, F, hcc, e3⟩ := spec_none hk hk2 hv hno
    rw [Bool.not_true, cond_false, e3, Option.bind_some]
    rcases hcc with rfl | rfl
    · rfl
    · rfl

/-- What Refute and FirstSolution say of valid rules. -/
theorem refute_run {rs : List Ru} {n : Int} (hv : valid rs n = true) : ∃ (c : Int) (N : List Nd), ((c = 0 ∧ (N.length : Int) ≤ 4000 ∧ Rf n.toNat rs (List.replicate n.toNat 0) N ∧ ∃ n1, Srch n.toNat rs 5000 1 0 (List.replicate n.toNat 0) 0 true n1 [] ∧ n1 ≤ 5000) ∨
      (c = 6 ∧ ∃ n1 G, Srch n.toNat rs 5000 1 0 (List.replicate n.toNat 0) 0 false n1 G ∧ n1 ≤ 5000) ∨ c = 10 ∨ c = 5) ∧ ∀ k, 4000 ≤ k → k ≤ 4611686018427387904 → f28 k rs n 5000 = some (((), c, ()), (N, ())) := by
  obtain ⟨r1, r2, r3, r4⟩ := roks_of hv
  obtain ⟨b, s, c, n1, N, ⟨f1, f2, f4, G, f5, f6⟩, f3⟩ := refute_pair hv (B := 5000) (by omega) (by omega)
  have pre : ∀ k, 4000 ≤ k → k ≤ 4611686018427387904 → f28 k rs n 5000 = (f61 k rs n 5000).bind fun x10 => some (((), x10.1.2.1, ()), (x10.2.1, ())) := by
    intro k hk hk2
    unfold f28
    rw [impl_valid k rs n hk2 (by omega) (lens_of r4 (by omega)), hv, Option.bind_some, Bool.not_true, cond_false, budget_5000, Option.bind_some, Bool.not_true, cond_false]
  rcases f1 with ⟨rfl, rfl, rfl, hs⟩ | ⟨rfl, rfl, rfl, hs⟩ | ⟨rfl, rfl, rfl, hs⟩
  · obtain rfl : G = [] := f6.2 rfl
    by_cases hN : (N.length : Int) > 4000
    · refine ⟨5, [], .inr (.inr (.inr rfl)), fun k hk hk2 => ?_⟩
      obtain ⟨_, g2⟩ := f3 k hk
      rw [pre k hk hk2]
      unfold f61
      rw [g2]
      simp only [Option.bind_some, cond_false, f43a]
      rw [show decide (n1 > 5000) = false from decide_eq_false (by omega), show decide ((N.length : Int) > 4000) = true from decide_eq_true hN]; rfl
    · refine ⟨0, N, .inl ⟨rfl, by omega, f4 rfl, n1, f5, hs⟩, fun k hk hk2 => ?_⟩
      obtain ⟨_, g2⟩ := f3 k hk
      rw [pre k hk hk2]
      unfold f61
      rw [g2]
      simp only [Option.bind_some, cond_false, f43a]
      rw [show decide (n1 > 5000) = false from decide_eq_false (by omega), show decide ((N.length : Int) > 4000) = false from decide_eq_false hN]; rfl
  · refine ⟨10, [], .inr (.inr (.inl rfl)), fun k hk hk2 => ?_⟩
    obtain ⟨_, g2⟩ := f3 k hk
    rw [pre k hk hk2]
    unfold f61
    rw [g2]
    simp only [Option.bind_some, cond_false, f43a]
    rw [show decide (n1 > 5000) = true from decide_eq_true hs]; rfl
  · refine ⟨6, [], .inr (.inl ⟨rfl, n1, G, f5, hs⟩), fun k hk hk2 => ?_⟩
    obtain ⟨_, g2⟩ := f3 k hk
    rw [pre k hk hk2]
    unfold f61
    rw [g2]
    rfl

theorem spec_sol_no {k : Nat} (hk : 4000 ≤ k) (hk2 : k ≤ 4611686018427387904) {rs : List Ru} {n : Nat} (hv : valid rs (n : Int) = true) {x : List Int} (hl : x.length = n) (hx : ∀ y ∈ x, y = 1 ∨ y = -1) (hno : ∀ x, Sol n rs x → False) : f10 k rs (n : Int) x = some ((false, ()), ()) := by
  obtain ⟨r1, r2, r3, r4⟩ := roks_of hv
  rw [Int.toNat_natCast] at r4
  have hV : Vok n x := ⟨hl, fun y hy => by have := hx y hy; omega⟩
  unfold f10
  rw [spec_valid k rs n hk2 (by omega) (lens_of r4 (by omega)), hv]
  have hz : ∀ y ∈ x, y ≠ 0 := fun y hy => by have := hx y hy; omega
  have hh : holdAll rs x = false := by
    cases q : holdAll rs x with
    | false => rfl
    | true =>
      refine (hno x ⟨hV, fun u u0 u1 => ?_, fun r hr => ?_⟩).elim
      · have := vat_get hl (v := u.toNat) (by omega)
        rw [show ((u.toNat : Nat) : Int) = u by omega] at this
        have := hx _ (List.mem_of_getElem? this)
        omega
      · have := List.all_eq_true.1 q r hr
        by_cases k : hold r x < 0
        · rw [dlt k] at this; cases this
        · omega
  simp only [Option.bind_some, Bool.not_true, cond_false, hl, bne_self_int, vals_true (k := k) x hV.t (by omega) (by omega), has_no (k := k) x hz (by omega) (by omega)]
  refine (spec_sol_loop (k := k) (n := n) (by omega) rs r4 (by omega) x hV _ rs 0 rfl k (by omega)).trans ?_
  rw [hh]; rfl

theorem refuteFn_law (code : List Int) (ho : Ok (.sl (.int .u8)) code) (more : List Int) (hm : Ok (.sl (.int .u8)) more) : f7 KK code more = some ((true, ()), ()) := by
  unfold f7
  by_cases hc : (code.length : Int) > 1048576
  · rw [show decide ((code.length : Int) > 1048576) = true from decide_eq_true hc]; rfl
  rw [show decide ((code.length : Int) > 1048576) = false from decide_eq_false hc, cond_false]
  by_cases hc2 : (more.length : Int) > 1048576
  · rw [show decide ((more.length : Int) > 1048576) = true from decide_eq_true hc2]; rfl
  rw [show decide ((more.length : Int) > 1048576) = false from decide_eq_false hc2, cond_false]
  obtain ⟨v, rs, full, v1, v2, r1, r2, g1, g2, e⟩ := draw_all (ok_bytes ho) (by omega)
  have hv := valid_of v2 r1 r2
  obtain ⟨_, _, _, hR⟩ := roks_of hv
  obtain ⟨c, N, hC, eR⟩ := refute_run hv
  obtain ⟨n2, G2, b2, hs2, eF⟩ := first_run hv
  have hk : 100000 ≤ KK := by unfold KK; omega
  have hk2 : KK ≤ 4611686018427387904 := by unfold KK; omega
  have hfirst : ∃ w, f14 KK rs (v : Int) 5000 = some w := by
    have hc : ∀ (l : List Ru), (∀ r ∈ l, Q4 r) → cost l ≤ 8 * l.length := by
      intro l
      induction l with
      | nil => intro _; simp [cost]
      | cons r l ih =>
        intro h
        have h1 := h r (List.mem_cons.2 (.inl rfl))
        have h2 := ih fun q hq => h q (List.mem_cons.2 (.inr hq))
        unfold Q4 at h1
        simp only [cost, List.length_cons]; omega
    have := hc rs fun r hr => q4_of (r2 r hr)
    obtain ⟨c, F, _, h⟩ := first_eq (rs := rs) (by omega) (v : Int) 5000
    exact ⟨_, (h KK (by unfold KK; omega) hk2).2⟩
  have eR := eR KK (by omega) hk2
  have eF := eF KK (by omega) hk2
  have hmore := fun nx => more_law (ρ := (Bool × Unit) × Unit) (ok_bytes hm) (by omega) nx
  generalize KK = K at hk hk2 e eR eF hmore hfirst ⊢
  rw [e8_same, e, Option.bind_some, eR, Option.bind_some]
  have z := zeros_ok (v : Int).toNat
  rcases hC with ⟨rfl, hN, hRf, n1, hs, hn⟩ | ⟨rfl, n1, G, hs, hn⟩ | rfl | rfl
  · -- a refutation
    have h1 := srch_less hR hs rfl z hs2
    obtain ⟨rfl, rfl⟩ := h1.1 rfl
    have S2 := srch_sem hR hs2 z
    have S := srch_sem hR hs z
    have hG2 : G2 = [] := by
      have := (S2.t rfl).2 (by omega)
      cases G2 with
      | nil => rfl
      | cons x G => simp only [List.length_cons] at this; omega
    subst hG2
    have hno : ∀ x, Sol (v : Int).toNat rs x → False := fun x hx => by
      rcases S.a x hx (ext_zeros x) with k | ⟨k, _⟩
      · cases k
      · cases k
    rw [eF hn, Option.bind_some]
    rw [show ((0 : Int) == 0) = true from rfl, cond_true, show ((8 : Int) != 8) = false from rfl, cond_false]
    rw [Int.toNat_natCast] at hno
    rw [spec_sol_no (k := K) (by omega) hk2 hv g1 g2 hno, Option.bind_some, cond_false]
    rw [check_true hk hk2 hv hN hRf, Option.bind_some, Bool.not_true, cond_false]
    obtain ⟨d, d0, d1, ed⟩ := depth_run hk hv hN hRf
    rw [ed, Option.bind_some, dnlt d0, cond_false, Option.bind_some, show decide (d > (v : Int)) = false from decide_eq_false (by omega), cond_false]
    exact hmore _
  · -- a solution
    have h1 := srch_less hR hs rfl z hs2
    have h2 := srch_less hR hs2 rfl z hs
    have S2 := srch_sem hR hs2 z
    have hn2 : n2 ≤ 5000 := by omega
    have hG2 : ∃ x G, G2 = x :: G := by
      cases G2 with
      | cons x G => exact ⟨x, G, rfl⟩
      | nil =>
        cases b2 with
        | true => have := (h2.1 rfl).1; cases this
        | false =>
          rcases S2.f rfl with q | q
          · omega
          · simp at q
    obtain ⟨x, G', rfl⟩ := hG2
    rw [eF hn2, Option.bind_some]
    rw [show ((6 : Int) == 0) = false from rfl, cond_false, show ((6 : Int) == 6) = true from rfl, cond_true, show ((0 : Int) != 0) = false from rfl, cond_false]
    exact hmore _
  · -- the budget
    obtain ⟨w, hw⟩ := hfirst
    rw [hw]; rfl
  · obtain ⟨w, hw⟩ := hfirst
    rw [hw]; rfl
end Go.Proofs.Ytiilgicmdnllbaa.R
