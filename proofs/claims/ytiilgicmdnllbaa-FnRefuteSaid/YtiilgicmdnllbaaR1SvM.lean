/- The draws of rules and values, whole. -/
import Derived.Test.YtiilgicmdnllbaaR1SvL
namespace Go.Proofs.Ytiilgicmdnllbaa.R
open Go.Proofs.Ytiilgicmdnllbaa.R1

theorem rules_loop {code : List Int} (hc : Bytes code) (hl : code.length ≤ 1048576) {v : Nat} (hv1 : 1 ≤ v) (hv2 : v ≤ 9) : ∀ (c p : Nat) (s : Int) (acc : List Ru), p + c * CC ≤ 1152921504606846976 → acc.length + c ≤ 100 → St s → (∀ r ∈ acc, vr (v : Int) r = true) →
    ∃ (acc' : List Ru) (p' : Nat) (s' : Int), (∀ r ∈ acc', vr (v : Int) r = true) ∧ acc'.length = acc.length + c ∧ p' ≤ p + c * CC ∧ St s' ∧
      (∀ {ρ : Type} (j : Nat) (nx), c < j → f36a_l4 (ρ := ρ) KK j (v : Int) (c : Int) code (p : Int) s acc nx = nx.1 (((v : Int), (), ()), ((code, (p' : Int), s', ()), acc', ()))) ∧
      (∀ {ρ : Type} (j : Nat) (nx), c < j → f8a_l4 (ρ := ρ) KK j (v : Int) (c : Int) code (p : Int) s acc nx = nx.1 (((), (), (v : Int), ()), ((code, (p' : Int), s', ()), acc', ())))
  | 0, p, s, acc, hp, ha, hs, hr => ⟨acc, p, s, hr, rfl, by omega, hs, fun {ρ} j nx hj => by
      obtain ⟨j, rfl⟩ : ∃ q, j = q + 1 := ⟨j - 1, by omega⟩
      rfl, fun {ρ} j nx hj => by
      obtain ⟨j, rfl⟩ : ∃ q, j = q + 1 := ⟨j - 1, by omega⟩
      rfl⟩
  | c + 1, p, s, acc, hp, ha, hs, hr => by
    rw [Nat.add_mul] at hp
    obtain ⟨kd, vs, ss, p1, s1, e1, e2, e3, e4⟩ := draw_rule hc hl hv1 hv2 (p := p) (s := s) (by omega) hs
    obtain ⟨acc', p', s', a1, a2, a3, a4, a5, a6⟩ := rules_loop hc hl hv1 hv2 c p1 s1 (acc ++ [(kd, (vs, ss))]) (by omega) (by rw [List.length_append, List.length_singleton]; omega) e3 (fun r h => by
      rcases List.mem_append.1 h with h | h
      · exact hr r h
      · rw [List.mem_singleton.1 h]; exact e1)
    have hgt : decide (((c + 1 : Nat) : Int) > 0) = true := decide_eq_true (by omega)
    have hroom : decide ((acc.length + [((kd : Int), (vs, ss))].length) * 56 ≤ roomy) = true := decide_eq_true (by simp only [List.length_singleton, roomy]; omega)
    have hw : wr .i64 (((c + 1 : Nat) : Int) - 1) = (c : Int) := by rw [wr_id (by omega) (by omega)]; omega
    refine ⟨acc', p', s', a1, by rw [a2, List.length_append, List.length_singleton]; omega, by rw [Nat.add_mul]; omega, a4, fun {ρ} j nx hj => ?_, fun {ρ} j nx hj => ?_⟩
    · obtain ⟨j, rfl⟩ : ∃ q, j = q + 1 := ⟨j - 1, by omega⟩
      simp only [f36a_l4, hgt, cond_true, e4, Option.bind_some, hroom, hw]
      exact a5 j nx (by omega)
    · obtain ⟨j, rfl⟩ : ∃ q, j = q + 1 := ⟨j - 1, by omega⟩
      simp only [f8a_l4, hgt, cond_true, e4, Option.bind_some, hroom, hw]
      exact a6 j nx (by omega)

theorem draw_rules {code : List Int} (hc : Bytes code) (hl : code.length ≤ 1048576) {p : Nat} {s : Int} (hp : p ≤ 1000) (hs : St s) :
    ∃ (v : Nat) (rs : List Ru) (p' : Nat) (s' : Int), 1 ≤ v ∧ v ≤ 9 ∧ rs.length ≤ 13 ∧ (∀ r ∈ rs, vr (v : Int) r = true) ∧ p' ≤ p + 2 + 13 * CC ∧ St s' ∧
      f36a KK code (p : Int) s = some (((), (v : Int), ()), ((code, (p' : Int), s', ()), rs, ())) := by
  obtain ⟨x, p1, s1, x0, x1, b1, b2, b3⟩ := pick_any (k := KK) hc hl (p := p) (by omega) hs (n := 9) (by omega) (by omega)
  obtain ⟨y, p2, s2, y0, y1, d1, d2, d3⟩ := pick_any (k := KK) hc hl (p := p1) (by omega) b2 (n := 14) (by omega) (by omega)
  obtain ⟨v, hv⟩ : ∃ v : Nat, wr .i64 (1 + x) = (v : Int) ∧ 1 ≤ v ∧ v ≤ 9 := ⟨(1 + x).toNat, by rw [wr_id (by omega) (by omega)]; omega, by omega, by omega⟩
  obtain ⟨hv, hv1, hv2⟩ := hv
  obtain ⟨c, rfl⟩ : ∃ c : Nat, y = (c : Int) := ⟨y.toNat, by omega⟩
  have : c * CC ≤ 13 * CC := Nat.mul_le_mul_right _ (by omega)
  obtain ⟨rs, p', s', a1, a2, a3, a4, a5, _⟩ := rules_loop hc hl hv1 hv2 c p2 s2 [] (by unfold CC at *; omega) (by simp; omega) d2 (fun r h => by cases h)
  refine ⟨v, rs, p', s', hv1, hv2, by rw [a2]; simp; omega, a1, by omega, a4, ?_⟩
  have hK : c < KK := by unfold KK; omega
  generalize KK = K at hK b3 d3 a5 ⊢
  unfold f36a
  rw [b3, Option.bind_some, d3, Option.bind_some, hv]
  exact a5 K _ hK

theorem vals_loop {code : List Int} (hc : Bytes code) (hl : code.length ≤ 1048576) (rs : List Ru) {v : Nat} (hv2 : v ≤ 9) : ∀ (m i : Nat), i + m = v → ∀ (p : Nat) (s : Int) (ss : List Int), p + m ≤ 1252921504606846976 → St s → ss.length = i → (∀ x ∈ ss, x = 1 ∨ x = -1) →
    ∃ (ss' : List Int), ss'.length = v ∧ (∀ x ∈ ss', x = 1 ∨ x = -1) ∧ ∀ {ρ : Type} (j : Nat) (nx), m < j →
      f8a_l9 (ρ := ρ) KK j (v : Int) (i : Int) code (p : Int) s rs ss nx = nx.1 (((), (v : Int), (), ()), (rs, ss', ()))
  | 0, i, hi, p, s, ss, hp, hs, h1, h2 => ⟨ss, by omega, h2, fun {ρ} j nx hj => by
    obtain ⟨j, rfl⟩ : ∃ q, j = q + 1 := ⟨j - 1, by omega⟩
    simp only [f8a_l9]
    rw [show decide ((i : Int) < (v : Int)) = false from dnlt (by omega)]
    rfl⟩
  | m + 1, i, hi, p, s, ss, hp, hs, h1, h2 => by
    obtain ⟨x, p1, s1, x0, x1, b1, b2, b3⟩ := pick_any (k := KK) hc hl (p := p) (by omega) hs (n := 2) (by omega) (by omega)
    have hx : wr .i64 (1 - wr .i64 (2 * x)) = 1 ∨ wr .i64 (1 - wr .i64 (2 * x)) = -1 := by
      have : x = 0 ∨ x = 1 := by omega
      rcases this with rfl | rfl
      · exact .inl rfl
      · exact .inr rfl
    obtain ⟨ss', a1, a2, a5⟩ := vals_loop hc hl rs hv2 m (i + 1) (by omega) p1 s1 (ss ++ [wr .i64 (1 - wr .i64 (2 * x))]) (by omega) b2 (by rw [List.length_append, List.length_singleton]; omega) (fun y hy => by
      rcases List.mem_append.1 hy with h | h
      · exact h2 y h
      · rw [List.mem_singleton.1 h]; exact hx)
    refine ⟨ss', a1, a2, fun {ρ} j nx hj => ?_⟩
    obtain ⟨j, rfl⟩ : ∃ q, j = q + 1 := ⟨j - 1, by omega⟩
    simp only [f8a_l9]
    rw [show decide ((i : Int) < (v : Int)) = true from dlt (by omega)]
    simp only [cond_true, b3, Option.bind_some]
    rw [show decide ((ss.length + [wr .i64 (1 - wr .i64 (2 * x))].length) * 8 ≤ roomy) = true from decide_eq_true (by simp only [List.length_singleton, roomy]; omega)]
    simp only [cond_true, wr_succ (show i < 4611686018427387904 by omega)]
    exact a5 j nx (by omega)

theorem draw_all {code : List Int} (hc : Bytes code) (hl : code.length ≤ 1048576) :
    ∃ (v : Nat) (rs : List Ru) (full : List Int), 1 ≤ v ∧ v ≤ 9 ∧ rs.length ≤ 22 ∧ (∀ r ∈ rs, vr (v : Int) r = true) ∧ full.length = v ∧ (∀ x ∈ full, x = 1 ∨ x = -1) ∧
      f8a KK code = some (((), (v : Int), (), ()), (rs, full, ())) := by
  obtain ⟨v, rs, p, s, v1, v2, r1, r2, r3, r4, r5⟩ := draw_rules hc hl (p := 0) (s := 0) (by omega) ⟨by omega, by omega⟩
  obtain ⟨y, p2, s2, y0, y1, d1, d2, d3⟩ := pick_any (k := KK) hc hl (p := p) (by unfold CC at *; omega) r4 (n := 10) (by omega) (by omega)
  obtain ⟨c, rfl⟩ : ∃ c : Nat, y = (c : Int) := ⟨y.toNat, by omega⟩
  have : c * CC ≤ 9 * CC := Nat.mul_le_mul_right _ (by omega)
  obtain ⟨rs', p', s', a1, a2, a3, a4, _, a6⟩ := rules_loop hc hl v1 v2 c p2 s2 rs (by unfold CC at *; omega) (by omega) d2 r2
  obtain ⟨full, f1, f2, f3⟩ := vals_loop hc hl rs' v2 v 0 (by omega) p' s' [] (by unfold CC at *; omega) a4 rfl (fun x hx => by cases hx)
  refine ⟨v, rs', full, v1, v2, by omega, a1, f1, f2, ?_⟩
  have r6 : f36a KK code 0 0 = _ := r5
  have hK : 100 < KK := by unfold KK; omega
  clear r5
  generalize KK = K at hK r6 d3 a6 f3 ⊢
  unfold f8a f35
  rw [Option.bind_some, r6, Option.bind_some, d3, Option.bind_some, a6 K _ (by omega)]
  exact f3 K _ (by omega)
end Go.Proofs.Ytiilgicmdnllbaa.R
