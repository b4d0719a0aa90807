/- SolveRules and FirstSolution answer alike; the laws. -/
import Derived.Test.YtiilgicmdnllbaaR1SvG
namespace Go.Proofs.Ytiilgicmdnllbaa.R
open Go.Proofs.Ytiilgicmdnllbaa.R1

theorem zeros_ok (n : Nat) : Vok n (List.replicate n (0 : Int)) := ⟨List.length_replicate, fun x hx => .inr (.inl (List.eq_of_mem_replicate hx))⟩

theorem room {n : Int} (h0 : 0 ≤ n) (h1 : n ≤ 200) : (decide (n = n) && decide (0 ≤ n) && decide (n * 8 ≤ roomy)) = true := by
  rw [decide_eq_true rfl, dle h0, dle (by simp only [roomy]; omega)]; rfl

/-- Both sides solve alike. -/
theorem solve_pair {rs : List Ru} {n : Int} (hv : valid rs n = true) {B : Int} (hB1 : 1 ≤ B) (hB : B ≤ 5000) {M : Nat} (h1 : 1 ≤ M) (hM : M ≤ 100) :
    ∃ (n1 : Int) (F : List (List Int)), (F.length ≤ 100 ∧ ∃ b, Srch n.toNat rs B M 0 (List.replicate n.toNat 0) 0 b n1 F) ∧ (∀ x ∈ F, x.length ≤ 200) ∧ ∀ k, 4000 ≤ k →
      f56 k rs n B (M : Int) = some (((), ()), ((rs, B, n1, (M : Int), (F.length : Int), (), ()), F, ())) ∧
      f42 k rs n B (M : Int) = some (((), (), ()), (F, (rs, B, n1, (((), ()), (M : Int)), (), ()), ((), ()), ())) := by
  obtain ⟨r1, r2, r3, r4⟩ := roks_of hv
  obtain ⟨b, n1, F, c1, c2, c3, c4, ⟨c5, G, hG, c7⟩, c6⟩ := search (n := n.toNat) (by omega) rs r4 r3 B hB M h1 hM 200 (List.replicate n.toNat 0) (zeros_ok _) (Nat.le_trans (zs_le _) (by rw [List.length_replicate]; omega)) 0 [] (by omega) (by omega) (by simp; omega) (by simp)
  obtain rfl : F = G := hG
  refine ⟨n1, F, ⟨by omega, b, c7⟩, fun x hx => by rw [c5 x hx]; omega, fun k hk => ?_⟩
  obtain ⟨k, rfl⟩ : ∃ q, k = q + 1 := ⟨k - 1, by omega⟩
  obtain ⟨d1, d2⟩ := c6 k (by omega)
  refine ⟨?_, ?_⟩
  · unfold f56
    rw [room r1 r2]
    simp only [cond_true]
    rw [show (([] : List (List Int)).length : Int) = 0 from rfl] at d1
    rw [d1]; rfl
  · unfold f42 f74
    rw [room r1 r2]
    simp only [cond_true]
    rw [d2]; rfl

theorem solve_eq {rs : List Ru} (hl : rs.length + cost rs ≤ 1048576) (n B M : Int) : ∃ (n1 c : Int) (F : List (List Int)), F.length ≤ 100 ∧ (∀ x ∈ F, x.length ≤ 200) ∧ ∀ k, 2097152 ≤ k → k ≤ 4611686018427387904 →
    f23 k rs n B M = some (((), n1, c, ()), (F, ())) ∧ f9 k rs n B M = some (((), n1, c, ()), (F, ())) := by
  have hv := fun k (hk : 2097152 ≤ k) (hk2 : k ≤ 4611686018427387904) => (⟨impl_valid k rs n hk2 (by omega) (fun r hr => by have := cost_mem hr; exact ⟨by omega, by omega⟩), spec_valid k rs n hk2 (by omega) (fun r hr => by have := cost_mem hr; exact ⟨by omega, by omega⟩)⟩ : f39 k rs n = some ((valid rs n, ()), ()) ∧ f44 k rs n = some ((valid rs n, ()), ()))
  cases h1 : valid rs n with
  | false =>
    refine ⟨0, 1, [], by simp, by simp, fun k hk hk2 => ?_⟩
    obtain ⟨e1, e2⟩ := hv k hk hk2
    rw [h1] at e1 e2
    refine ⟨?_, ?_⟩
    · unfold f23 f55; rw [e2]; rfl
    · unfold f9; rw [e1]; rfl
  | true =>
    cases h2 : decide (1 ≤ B) && decide (B ≤ 5000) with
    | false =>
      refine ⟨0, 1, [], by simp, by simp, fun k hk hk2 => ?_⟩
      obtain ⟨e1, e2⟩ := hv k hk hk2
      rw [h1] at e1 e2
      refine ⟨?_, ?_⟩
      · unfold f23 f55; rw [e2]; simp only [Option.bind_some, cond_true, spec_in, h2]; rfl
      · unfold f9 f40; rw [e1]; simp only [Option.bind_some, Bool.not_true, cond_false, impl_in, h2]; rfl
    | true =>
      cases h3 : decide (1 ≤ M) && decide (M ≤ 100) with
      | false =>
        refine ⟨0, 1, [], by simp, by simp, fun k hk hk2 => ?_⟩
        obtain ⟨e1, e2⟩ := hv k hk hk2
        rw [h1] at e1 e2
        refine ⟨?_, ?_⟩
        · unfold f23 f55; rw [e2]; simp only [Option.bind_some, cond_true, spec_in, h2, Bool.not_true, cond_false, h3]; rfl
        · unfold f9 f40; rw [e1]; simp only [Option.bind_some, Bool.not_true, cond_false, impl_in, h2, h3]; rfl
      | true =>
        have h2' := h2
        have h3' := h3
        rw [Bool.and_eq_true, decide_eq_true_eq, decide_eq_true_eq] at h2' h3'
        obtain ⟨m, rfl⟩ : ∃ m : Nat, M = (m : Int) := ⟨M.toNat, by omega⟩
        obtain ⟨n1, F, ⟨f1, _⟩, f2, f3⟩ := solve_pair h1 h2'.1 h2'.2 (M := m) (by omega) (by omega)
        by_cases hs : n1 > B
        · refine ⟨0, 10, [], by simp, by simp, fun k hk hk2 => ?_⟩
          obtain ⟨e1, e2⟩ := hv k hk hk2
          obtain ⟨g1, g2⟩ := f3 k (by omega)
          rw [h1] at e1 e2
          refine ⟨?_, ?_⟩
          · unfold f23 f55; rw [e2]; simp only [Option.bind_some, cond_true, spec_in, h2, Bool.not_true, cond_false, h3, g1]
            rw [show decide (n1 > B) = true from decide_eq_true hs]; rfl
          · unfold f9 f40; rw [e1]; simp only [Option.bind_some, Bool.not_true, cond_false, impl_in, h2, h3, g2, f43]
            rw [show decide (n1 > B) = true from decide_eq_true hs]; rfl
        · refine ⟨n1, 0, F, f1, f2, fun k hk hk2 => ?_⟩
          obtain ⟨e1, e2⟩ := hv k hk hk2
          obtain ⟨g1, g2⟩ := f3 k (by omega)
          rw [h1] at e1 e2
          refine ⟨?_, ?_⟩
          · unfold f23 f55; rw [e2]; simp only [Option.bind_some, cond_true, spec_in, h2, Bool.not_true, cond_false, h3, g1]
            rw [show decide (n1 > B) = false from decide_eq_false hs]; rfl
          · unfold f9 f40; rw [e1]; simp only [Option.bind_some, Bool.not_true, cond_false, impl_in, h2, h3, g2, f43]
            rw [show decide (n1 > B) = false from decide_eq_false hs]; rfl

theorem first_eq {rs : List Ru} (hl : rs.length + cost rs ≤ 1048576) (n B : Int) : ∃ (c : Int) (F : List Int), F.length ≤ 200 ∧ ∀ k, 2097152 ≤ k → k ≤ 4611686018427387904 →
    f16 k rs n B = some (((), c, ()), (F, ())) ∧ f14 k rs n B = some (((), c, ()), (F, ())) := by
  have hv := fun k (hk : 2097152 ≤ k) (hk2 : k ≤ 4611686018427387904) => (⟨impl_valid k rs n hk2 (by omega) (fun r hr => by have := cost_mem hr; exact ⟨by omega, by omega⟩), spec_valid k rs n hk2 (by omega) (fun r hr => by have := cost_mem hr; exact ⟨by omega, by omega⟩)⟩ : f39 k rs n = some ((valid rs n, ()), ()) ∧ f44 k rs n = some ((valid rs n, ()), ()))
  cases h1 : valid rs n with
  | false =>
    refine ⟨1, [], by simp, fun k hk hk2 => ?_⟩
    obtain ⟨e1, e2⟩ := hv k hk hk2
    rw [h1] at e1 e2
    refine ⟨?_, ?_⟩
    · unfold f16 f55; rw [e2]; rfl
    · unfold f14; rw [e1]; rfl
  | true =>
    cases h2 : decide (1 ≤ B) && decide (B ≤ 5000) with
    | false =>
      refine ⟨1, [], by simp, fun k hk hk2 => ?_⟩
      obtain ⟨e1, e2⟩ := hv k hk hk2
      rw [h1] at e1 e2
      refine ⟨?_, ?_⟩
      · unfold f16 f55; rw [e2]; simp only [Option.bind_some, cond_true, spec_in, h2]; rfl
      · unfold f14 f40; rw [e1]; simp only [Option.bind_some, Bool.not_true, cond_false, impl_in, h2]; rfl
    | true =>
      have h2' := h2
      rw [Bool.and_eq_true, decide_eq_true_eq, decide_eq_true_eq] at h2'
      obtain ⟨n1, F, ⟨f1, _⟩, f2, f3⟩ := solve_pair h1 h2'.1 h2'.2 (M := 1) (by omega) (by omega)
      by_cases hs : n1 > B
      · refine ⟨10, [], by simp, fun k hk hk2 => ?_⟩
        obtain ⟨e1, e2⟩ := hv k hk hk2
        obtain ⟨g1, g2⟩ := f3 k (by omega)
        rw [h1] at e1 e2
        refine ⟨?_, ?_⟩
        · unfold f16 f55; rw [e2]; simp only [Option.bind_some, cond_true, spec_in, h2, Bool.not_true, cond_false]
          rw [show (1 : Int) = ((1 : Nat) : Int) from rfl, g1]
          simp only [Option.bind_some]
          rw [show decide (n1 > B) = true from decide_eq_true hs]; rfl
        · unfold f14 f40 f53; rw [e1]; simp only [Option.bind_some, Bool.not_true, cond_false, impl_in, h2]
          rw [show (1 : Int) = ((1 : Nat) : Int) from rfl, g2]
          simp only [Option.bind_some, f43]
          rw [show decide (n1 > B) = true from decide_eq_true hs]; rfl
      · have hsf : decide (n1 > B) = false := decide_eq_false hs
        cases F with
        | nil =>
          refine ⟨8, [], by simp, fun k hk hk2 => ?_⟩
          obtain ⟨e1, e2⟩ := hv k hk hk2
          obtain ⟨g1, g2⟩ := f3 k (by omega)
          rw [h1] at e1 e2
          refine ⟨?_, ?_⟩
          · unfold f16 f55; rw [e2]; simp only [Option.bind_some, cond_true, spec_in, h2, Bool.not_true, cond_false]
            rw [show (1 : Int) = ((1 : Nat) : Int) from rfl, g1]
            simp only [Option.bind_some, hsf, cond_false]; rfl
          · unfold f14 f40 f53; rw [e1]; simp only [Option.bind_some, Bool.not_true, cond_false, impl_in, h2]
            rw [show (1 : Int) = ((1 : Nat) : Int) from rfl, g2]
            simp only [Option.bind_some, f43, hsf, cond_false]; rfl
        | cons x F =>
          have hne : ((((x :: F).length : Nat) : Int) == 0) = false := by rw [beq_eq_false_iff_ne, List.length_cons]; omega
          have hin : (decide (0 ≤ (0 : Nat)) && decide ((0 : Int) < (((x :: F).length : Nat) : Int))) = true := by
            rw [dlt (show (0 : Int) < (((x :: F).length : Nat) : Int) by rw [List.length_cons]; omega)]; rfl
          refine ⟨0, x, f2 x (List.mem_cons.2 (.inl rfl)), fun k hk hk2 => ?_⟩
          obtain ⟨e1, e2⟩ := hv k hk hk2
          obtain ⟨g1, g2⟩ := f3 k (by omega)
          rw [h1] at e1 e2
          refine ⟨?_, ?_⟩
          · unfold f16 f55; rw [e2]; simp only [Option.bind_some, cond_true, spec_in, h2, Bool.not_true, cond_false]
            rw [show (1 : Int) = ((1 : Nat) : Int) from rfl, g1]
            simp only [Option.bind_some, hsf, cond_false, hne]
            rw [hin]; rfl
          · unfold f14 f40 f53; rw [e1]; simp only [Option.bind_some, Bool.not_true, cond_false, impl_in, h2]
            rw [show (1 : Int) = ((1 : Nat) : Int) from rfl, g2]
            simp only [Option.bind_some, f43, hsf, cond_false, hne]
            rw [hin]; rfl

theorem tot_le : ∀ {L : List (List Int)}, (∀ x ∈ L, x.length ≤ 200) → tot L ≤ 200 * L.length
  | [], _ => Nat.le_refl 0
  | x :: L, h => by
    have h1 := h x (List.mem_cons.2 (.inl rfl))
    have h2 := tot_le (L := L) fun y hy => h y (List.mem_cons.2 (.inr hy))
    simp only [tot, List.length_cons]
    omega

theorem solve_law (rs : List Ru) (ho : Ok (.sl (.pair (.int .i64) (.pair (.sl (.int .i64)) (.sl (.int .i64))))) rs) (n B M : Int) : f5 2097152 rs n B M = some ((true, ()), ()) := by
  obtain ⟨o1, o2⟩ := ok_big ho
  unfold f5
  rcases sizes (k := 2097152) (Nat.le_refl _) rs o1 o2 with e | ⟨left, e0, e1, e⟩
  · rw [e]; rfl
  · rw [e]
    simp only [Option.bind_some]
    rw [show decide (left < 0) = false from dnlt e0]
    obtain ⟨n1, c, F, f1, f2, f3⟩ := solve_eq e1 n B M
    obtain ⟨g1, g2⟩ := f3 2097152 (by omega) (by omega)
    obtain ⟨cm, L', m1, m2⟩ := mark_rules (k := 2097152) rs e1 (by omega)
    have ht := tot_le f2
    have he := eq_intss (k := 2097152) F (by omega) (by omega) (fun x hx => by have := f2 x hx; exact ⟨by omega, by omega⟩)
    have hm := mark_intss (k := 2097152) F (by omega) (by omega) (fun x hx => by have := f2 x hx; exact ⟨by omega, by omega⟩) (by omega)
    have hh := held_intss (k := 2097152) F (by omega) (by omega) (fun x hx => by have := f2 x hx; exact ⟨by omega, by omega⟩) (by omega)
    simp only [cond_false, copys e1 (Nat.le_refl _), Option.bind_some, g1, g2, he, Bool.not_true, bne_self_int, eq_rules rs e1 (Nat.le_refl _), m2, hm, hh]
    rw [show decide (cm < 0) = false from dnlt m1, show decide ((1 : Int) + (tot F : Int) < 0) = false from dnlt (by omega)]
    rfl

theorem first_law (rs : List Ru) (ho : Ok (.sl (.pair (.int .i64) (.pair (.sl (.int .i64)) (.sl (.int .i64))))) rs) (n B : Int) : f4 2097152 rs n B = some ((true, ()), ()) := by
  obtain ⟨o1, o2⟩ := ok_big ho
  unfold f4
  rcases sizes (k := 2097152) (Nat.le_refl _) rs o1 o2 with e | ⟨left, e0, e1, e⟩
  · rw [e]; rfl
  · rw [e]
    simp only [Option.bind_some]
    rw [show decide (left < 0) = false from dnlt e0]
    obtain ⟨c, F, f1, f3⟩ := first_eq e1 n B
    obtain ⟨g1, g2⟩ := f3 2097152 (by omega) (by omega)
    obtain ⟨cm, L', m1, m2⟩ := mark_rules (k := 2097152) rs e1 (by omega)
    have he := eq_ints (k := 2097152) F (by omega) (by omega)
    have hm := mark_ints (k := 2097152) F (by omega) (by omega) 1 (by omega) (by omega)
    have hh := held_ints (k := 2097152) F.length (by omega) (by omega) 1 (by omega) (by omega)
    simp only [cond_false, copys e1 (Nat.le_refl _), Option.bind_some, g1, g2, he, Bool.not_true, bne_self_int, eq_rules rs e1 (Nat.le_refl _), m2, hm, hh]
    rw [show decide (cm < 0) = false from dnlt m1, show decide ((1 : Int) + (F.length : Int) < 0) = false from dnlt (by omega)]
    rfl
end Go.Proofs.Ytiilgicmdnllbaa.R
