/- Refute answers alike; the law. -/
import Derived.Test.YtiilgicmdnllbaaR1SvH
import Derived.Test.YtiilgicmdnllbaaR1SvF
namespace Go.Proofs.Ytiilgicmdnllbaa.R
open Go.Proofs.Ytiilgicmdnllbaa.R1

theorem refute_pair {rs : List Ru} {n : Int} (hv : valid rs n = true) {B : Int} (hB1 : 1 ≤ B) (hB : B ≤ 5000) :
    ∃ (b s : Bool) (c n1 : Int) (N : List Nd), (ends b s c n1 B ∧ (N.length : Int) ≤ 201 * (B + 1) ∧ (b = true → Rf n.toNat rs (List.replicate n.toNat 0) N) ∧ ∃ G, Srch n.toNat rs B 1 0 (List.replicate n.toNat 0) 0 b n1 G ∧ (G = [] ↔ s = false)) ∧ ∀ k, 4000 ≤ k →
      (∃ w, f60 k rs B 0 0 [] (List.replicate n.toNat 0) = some ((), ((rs, B, n1, (), c, ()), w, N, ()))) ∧
      f74a k n rs B 0 false [] = some ((b, ()), ((rs, B, n1, ((), ()), ((), ()), ()), (s, ()), ((), ()), N, ())) := by
  obtain ⟨r1, r2, r3, r4⟩ := roks_of hv
  obtain ⟨b, s, c, n1, N, e1, e2, e3, e4, ⟨X, eX, e6, G, e7, e8⟩, e5⟩ := refutes (n := n.toNat) (by omega) rs r4 r3 B hB 200 (List.replicate n.toNat 0) (zeros_ok _) (Nat.le_trans (zs_le _) (by rw [List.length_replicate]; omega)) 0 [] (by omega) (by omega) (by simp)
  obtain rfl : N = X := eX
  refine ⟨b, s, c, n1, N, ⟨e1, by omega, e6, G, e7, e8⟩, fun k hk => ?_⟩
  obtain ⟨k, rfl⟩ : ∃ q, k = q + 1 := ⟨k - 1, by omega⟩
  obtain ⟨d1, w, d2⟩ := e5 k (by omega)
  refine ⟨d1, ?_⟩
  unfold f74a
  rw [room r1 r2]
  simp only [cond_true]
  rw [d2]; rfl

theorem refute_eq {rs : List Ru} (hl : rs.length + cost rs ≤ 1048576) (n B : Int) : ∃ (c : Int) (N : List Nd), N.length ≤ 4000 ∧ ∀ k, 2097152 ≤ k → k ≤ 4611686018427387904 →
    f27 k rs n B = some (((), c, ()), (N, ())) ∧ f28 k rs n B = some (((), c, ()), (N, ())) := by
  have hv := fun k (hk : 2097152 ≤ k) (hk2 : k ≤ 4611686018427387904) => (⟨impl_valid k rs n hk2 (by omega) (fun r hr => by have := cost_mem hr; exact ⟨by omega, by omega⟩), spec_valid k rs n hk2 (by omega) (fun r hr => by have := cost_mem hr; exact ⟨by omega, by omega⟩)⟩ : f39 k rs n = some ((valid rs n, ()), ()) ∧ f44 k rs n = some ((valid rs n, ()), ()))
  cases h1 : valid rs n with
  | false =>
    refine ⟨1, [], by simp, fun k hk hk2 => ?_⟩
    obtain ⟨e1, e2⟩ := hv k hk hk2
    rw [h1] at e1 e2
    refine ⟨?_, ?_⟩
    · unfold f27 f55; rw [e2]; rfl
    · unfold f28; rw [e1]; rfl
  | true =>
    cases h2 : decide (1 ≤ B) && decide (B ≤ 5000) with
    | false =>
      refine ⟨1, [], by simp, fun k hk hk2 => ?_⟩
      obtain ⟨e1, e2⟩ := hv k hk hk2
      rw [h1] at e1 e2
      refine ⟨?_, ?_⟩
      · unfold f27 f55; rw [e2]; simp only [Option.bind_some, cond_true, spec_in, h2]; rfl
      · unfold f28 f40; rw [e1]; simp only [Option.bind_some, Bool.not_true, cond_false, impl_in, h2]; rfl
    | true =>
      have h2' := h2
      rw [Bool.and_eq_true, decide_eq_true_eq, decide_eq_true_eq] at h2'
      obtain ⟨r1, r2, _, _⟩ := roks_of h1
      obtain ⟨b, s, c, n1, N, ⟨f1, _⟩, f3⟩ := refute_pair h1 h2'.1 h2'.2
      rcases f1 with ⟨rfl, rfl, rfl, hs⟩ | ⟨rfl, rfl, rfl, hs⟩ | ⟨rfl, rfl, rfl, hs⟩
      · by_cases hN : (N.length : Int) > 4000
        · refine ⟨5, [], by simp, fun k hk hk2 => ?_⟩
          obtain ⟨e1, e2⟩ := hv k hk hk2
          obtain ⟨⟨w, g1⟩, g2⟩ := f3 k (by omega)
          rw [h1] at e1 e2
          refine ⟨?_, ?_⟩
          · unfold f27 f55; rw [e2]; simp only [Option.bind_some, cond_true, spec_in, h2, Bool.not_true, cond_false, decide_true, dle r1, dle (show n * 8 ≤ (roomy : Int) by simp only [roomy]; omega), Bool.and_self, g1]
            rw [show decide ((N.length : Int) > 4000) = true from decide_eq_true hN]; rfl
          · unfold f28 f40 f61; rw [e1]; simp only [Option.bind_some, Bool.not_true, cond_false, impl_in, h2, g2, f43a]
            rw [show decide (n1 > B) = false from decide_eq_false (by omega), show decide ((N.length : Int) > 4000) = true from decide_eq_true hN]; rfl
        · refine ⟨0, N, by omega, fun k hk hk2 => ?_⟩
          obtain ⟨e1, e2⟩ := hv k hk hk2
          obtain ⟨⟨w, g1⟩, g2⟩ := f3 k (by omega)
          rw [h1] at e1 e2
          refine ⟨?_, ?_⟩
          · unfold f27 f55; rw [e2]; simp only [Option.bind_some, cond_true, spec_in, h2, Bool.not_true, cond_false, decide_true, dle r1, dle (show n * 8 ≤ (roomy : Int) by simp only [roomy]; omega), Bool.and_self, g1]
            rw [show decide ((N.length : Int) > 4000) = false from decide_eq_false hN]; rfl
          · unfold f28 f40 f61; rw [e1]; simp only [Option.bind_some, Bool.not_true, cond_false, impl_in, h2, g2, f43a]
            rw [show decide (n1 > B) = false from decide_eq_false (by omega), show decide ((N.length : Int) > 4000) = false from decide_eq_false hN]; rfl
      · refine ⟨10, [], by simp, fun k hk hk2 => ?_⟩
        obtain ⟨e1, e2⟩ := hv k hk hk2
        obtain ⟨⟨w, g1⟩, g2⟩ := f3 k (by omega)
        rw [h1] at e1 e2
        refine ⟨?_, ?_⟩
        · unfold f27 f55; rw [e2]; simp only [Option.bind_some, cond_true, spec_in, h2, Bool.not_true, cond_false, decide_true, dle r1, dle (show n * 8 ≤ (roomy : Int) by simp only [roomy]; omega), Bool.and_self, g1]; rfl
        · unfold f28 f40 f61; rw [e1]; simp only [Option.bind_some, Bool.not_true, cond_false, impl_in, h2, g2, f43a]
          rw [show decide (n1 > B) = true from decide_eq_true (by omega)]; rfl
      · refine ⟨6, [], by simp, fun k hk hk2 => ?_⟩
        obtain ⟨e1, e2⟩ := hv k hk hk2
        obtain ⟨⟨w, g1⟩, g2⟩ := f3 k (by omega)
        rw [h1] at e1 e2
        refine ⟨?_, ?_⟩
        · unfold f27 f55; rw [e2]; simp only [Option.bind_some, cond_true, spec_in, h2, Bool.not_true, cond_false, decide_true, dle r1, dle (show n * 8 ≤ (roomy : Int) by simp only [roomy]; omega), Bool.and_self, g1]; rfl
        · unfold f28 f40 f61; rw [e1]; simp only [Option.bind_some, Bool.not_true, cond_false, impl_in, h2, g2]; rfl

theorem eq_nodes {k : Nat} (l : List Nd) (hl : l.length < k) (h2 : l.length < 4611686018427387904) : f29 k l l = some ((true, ()), ()) := by
  have loop : ∀ (rest : List Nd) (i : Nat), l.drop i = rest → ∀ j, rest.length < j → f29_l4 (ρ := (Bool × Unit) × Unit) k j l l (i : Int) (fun x9 : (Unit × Unit) => some ((true, ()), ()), fun x10 : ((Bool × Unit) × Unit) => some ((x10.1.1, ()), ()), ()) = some ((true, ()), ()) := by
    intro rest
    induction rest with
    | nil =>
      intro i h j hj
      obtain ⟨j, rfl⟩ : ∃ q, j = q + 1 := ⟨j - 1, by simp at hj; omega⟩
      simp only [f29_l4, out_nil h, cond_false]
    | cons x rest ih =>
      intro i h j hj
      obtain ⟨j, rfl⟩ : ∃ q, j = q + 1 := ⟨j - 1, by simp at hj; omega⟩
      have hlt := lt_cons h
      simp only [f29_l4, in_cons h, cond_true, getI_cons h, Option.bind_some, f62, bne_self_int, cond_false, Bool.not_true, wr_succ (show i < 4611686018427387904 by omega)]
      exact ih (i + 1) (next_cons h) j (by simpa using hj)
  unfold f29
  rw [bne_self_int]
  exact loop l 0 rfl k hl

def qn : Int → Nat → List Nd
  | _, 0 => []
  | c, n + 1 => (c, (c + 1, (c + 2, c + 3))) :: qn (c + 4) n

theorem qn_length : ∀ (n : Nat) (c : Int), (qn c n).length = n
  | 0, _ => rfl
  | n + 1, c => by simp [qn, qn_length n]

theorem mark_nodes {k : Nat} (l : List Nd) (hl : l.length < k) (h2 : l.length ≤ 1000000) : f30 k 1 l = some (((1 : Int) + 4 * l.length, ()), (qn 1 l.length, ())) := by
  have loop : ∀ (rest : List Nd) (l : List Nd) (i : Nat), l.length ≤ 1000000 → l.drop i = rest → ∀ j, rest.length < j → ∀ c : Int, 0 ≤ c → c + 4 * rest.length ≤ 4398046511104 → f30_l2 (ρ := (Int × Unit) × ((List Nd) × Unit)) k j c (i : Int) l (fun x13 : ((Int × Unit) × ((List (Int × (Int × (Int × Int)))) × Unit)) => some ((x13.1.1, ()), (x13.2.1, ())), ()) = some ((c + 4 * rest.length, ()), (l.take i ++ qn c rest.length, ())) := by
    intro rest
    induction rest with
    | nil =>
      intro l i hl h j hj c h0 h1
      obtain ⟨j, rfl⟩ : ∃ q, j = q + 1 := ⟨j - 1, by simp at hj; omega⟩
      simp only [f30_l2, out_nil h, cond_false, List.length_nil, qn, List.append_nil, List.take_of_length_le (ge_nil h)]
      simp
    | cons x rest ih =>
      intro l i hl h j hj c h0 h1
      obtain ⟨j, rfl⟩ : ∃ q, j = q + 1 := ⟨j - 1, by simp at hj; omega⟩
      have hlt := lt_cons h
      simp only [List.length_cons] at h1
      have w1 : wr .i64 (c + 1) = c + 1 := wr_id (by omega) (by omega)
      have w2 : wr .i64 (c + 1 + 1) = c + 2 := by rw [wr_id (by omega) (by omega)]; omega
      have w3 : wr .i64 (c + 2 + 1) = c + 3 := by rw [wr_id (by omega) (by omega)]; omega
      have w4 : wr .i64 (c + 3 + 1) = c + 4 := by rw [wr_id (by omega) (by omega)]; omega
      simp only [f30_l2, in_cons h, cond_true, dle (show (0 : Int) ≤ (i : Int) by omega), Bool.and_self, Int.toNat_natCast, at_cons h, Option.bind_some, List.length_set, List.set_set, List.getElem?_set_self hlt, w1, w2, w3, w4, wr_succ (show i < 4611686018427387904 by omega)]
      rw [ih (l.set i (c, (c + 1, (c + 2, c + 3)))) (i + 1) (by rw [List.length_set]; exact hl) (drop_set h) j (by simpa using hj) (c + 4) (by omega) (by omega), take_set h]
      simp only [List.length_cons, qn, List.append_assoc, List.singleton_append]
      rw [show c + 4 + 4 * (rest.length : Int) = c + 4 * ((rest.length + 1 : Nat) : Int) by omega]
  unfold f30
  refine (loop l l 0 h2 rfl k hl 1 (by omega) (by omega)).trans ?_
  simp

theorem held_nodes {k : Nat} (n : Nat) (hl : n < k) (h2 : n ≤ 1000000) : f31 k (qn 1 n) 1 = some (((1 : Int) + 4 * n, ()), ()) := by
  have loop : ∀ (m : Nat) (l : List Nd) (i : Nat) (c : Int), l.length ≤ 1000000 → l.drop i = qn c m → ∀ j, m < j → 0 ≤ c → c + 4 * m ≤ 4398046511104 → f31_l2 (ρ := (Int × Unit) × Unit) k j l c (i : Int) (fun x16 : ((Int × Unit) × Unit) => some ((x16.1.1, ()), ()), fun x17 : ((Int × Unit) × Unit) => some ((x17.1.1, ()), ()), ()) = some ((c + 4 * m, ()), ()) := by
    intro m
    induction m with
    | zero =>
      intro l i c hl h j hj h0 h1
      obtain ⟨j, rfl⟩ : ∃ q, j = q + 1 := ⟨j - 1, by omega⟩
      have h : l.drop i = [] := h
      simp only [f31_l2, out_nil h, cond_false]
      simp
    | succ m ih =>
      intro l i c hl h j hj h0 h1
      obtain ⟨j, rfl⟩ : ∃ q, j = q + 1 := ⟨j - 1, by omega⟩
      have h : l.drop i = (c, (c + 1, (c + 2, c + 3))) :: qn (c + 4) m := h
      have hlt := lt_cons h
      have w1 : wr .i64 (c + 1) = c + 1 := wr_id (by omega) (by omega)
      have w2 : wr .i64 (c + 1 + 1) = c + 2 := by rw [wr_id (by omega) (by omega)]; omega
      have w3 : wr .i64 (c + 2 + 1) = c + 3 := by rw [wr_id (by omega) (by omega)]; omega
      have w4 : wr .i64 (c + 3 + 1) = c + 4 := by rw [wr_id (by omega) (by omega)]; omega
      simp only [f31_l2, in_cons h, cond_true, getI_cons h, Option.bind_some, w1, w2, w3, w4, bne_self_int, cond_false, wr_succ (show i < 4611686018427387904 by omega)]
      rw [ih l (i + 1) (c + 4) hl (next_cons h) j (by omega) (by omega) (by omega)]
      rw [show c + 4 + 4 * (m : Int) = c + 4 * ((m + 1 : Nat) : Int) by omega]
  unfold f31
  exact loop n (qn 1 n) 0 1 (by rw [qn_length]; exact h2) rfl k hl (by omega) (by omega)

theorem refute_law (rs : List Ru) (ho : Ok (.sl (.pair (.int .i64) (.pair (.sl (.int .i64)) (.sl (.int .i64))))) rs) (n B : Int) : f6 2097152 rs n B = some ((true, ()), ()) := by
  obtain ⟨o1, o2⟩ := ok_big ho
  unfold f6
  rcases sizes (k := 2097152) (Nat.le_refl _) rs o1 o2 with e | ⟨left, e0, e1, e⟩
  · rw [e]; rfl
  · rw [e]
    simp only [Option.bind_some]
    rw [show decide (left < 0) = false from dnlt e0]
    obtain ⟨c, N, f1, f3⟩ := refute_eq e1 n B
    obtain ⟨g1, g2⟩ := f3 2097152 (by omega) (by omega)
    obtain ⟨cm, L', m1, m2⟩ := mark_rules (k := 2097152) rs e1 (by omega)
    have he := eq_nodes (k := 2097152) N (by omega) (by omega)
    have hm := mark_nodes (k := 2097152) N (by omega) (by omega)
    have hh := held_nodes (k := 2097152) N.length (by omega) (by omega)
    simp only [cond_false, copys e1 (Nat.le_refl _), Option.bind_some, g1, g2, he, Bool.not_true, bne_self_int, eq_rules rs e1 (Nat.le_refl _), m2, hm, hh]
    rw [show decide (cm < 0) = false from dnlt m1, show decide ((1 : Int) + 4 * (N.length : Int) < 0) = false from dnlt (by omega)]
    rfl
end Go.Proofs.Ytiilgicmdnllbaa.R
