/- SectorOrders answers alike; the law. -/
import Derived.Test.YtlajiknepcjhgaaR1SeH
namespace Go.Proofs.Ytlajiknepcjhgaa.R
open Go.Proofs.Ytlajiknepcjhgaa.R1

theorem inv0 {n : Nat} {X : List Int} : Inv n X (fromN (ord0 X n) 0 (n * n)) 0 := by
  have G : ∀ p, p < n * n → g (fromN (ord0 X n) 0 (n * n)) p = ord0 X n p := fun p hp => by
    unfold g; rw [fromN_at _ _ _ _ hp, Nat.zero_add]; rfl
  have D : ∀ i q, q < n → (i * n + q) / n = i ∧ (i * n + q) % n = q := fun i q hq => by
    rw [Nat.mul_comm, Nat.mul_add_div (by omega), Nat.div_eq_of_lt hq, Nat.mul_add_mod, Nat.mod_eq_of_lt hq]
    exact ⟨by omega, rfl⟩
  refine ⟨fromN_length _ _ _, fun i q hi hq hc => ?_, fun i q _ _ _ h => absurd h (Nat.not_lt_zero _), fun i q hi hq ho _ => ?_⟩
  · rw [G _ (idx_lt hi hq)]
    unfold ord0
    obtain ⟨e1, e2⟩ := D i q hq
    rw [e1, e2, if_neg]
    rintro ⟨h1, h2⟩
    rcases hc with hc | hc
    · exact h1 hc
    · rw [h2] at hc; cases hc
  · rw [G _ (idx_lt (by omega) hq), G _ (idx_lt hq (by omega))]
    unfold ord0
    obtain ⟨e1, e2⟩ := D i q hq
    obtain ⟨e3, e4⟩ := D q i (by omega)
    rw [e1, e2, e3, e4, if_pos ⟨by omega, ho⟩, if_pos ⟨by omega, by rw [ov_sym]; exact ho⟩]
    exact ⟨rfl, rfl⟩

theorem clr0 {n : Nat} {X : List Int} : clr (fromN (ord0 X n) 0 (n * n)) = List.replicate (n * n) 0 := by
  refine g_ext (by rw [clr_length, fromN_length, List.length_replicate]) fun p hp => ?_
  rw [clr_length, fromN_length] at hp
  rw [g_clr]
  have e1 : g (fromN (ord0 X n) 0 (n * n)) p = ord0 X n p := by unfold g; rw [fromN_at _ _ _ _ hp, Nat.zero_add]; rfl
  have e2 : g (List.replicate (n * n) (0 : Int)) p = 0 := by unfold g; rw [List.getElem?_replicate, if_pos hp]; rfl
  rw [e1, e2]
  unfold ord0 c2
  split <;> rfl

theorem sector_eq {l ks : List Int} (hl : l.length ≤ 1048576) (hks : ks.length ≤ 1048576) : ∃ (c : Int) (out : List (List Int)), out.length ≤ 401 ∧ (∀ x ∈ out, x.length ≤ 64) ∧ ∀ k, 2097152 ≤ k →
    f5 k l ks = some (((), c, ()), (out, ())) ∧ f7 k l ks = some (((), c, ()), (out, ())) := by
  cases h1 : cone l with
  | false =>
    refine ⟨1, [], by simp, by simp, fun k hk => ⟨?_, ?_⟩⟩
    · unfold f5; rw [spec_cone (by omega), h1]; rfl
    · unfold f7; rw [impl_cone (by omega) l (by omega) (by omega), h1]; rfl
  | true =>
    cases h2 : kindsOk l ks with
    | false =>
      refine ⟨1, [], by simp, by simp, fun k hk => ⟨?_, ?_⟩⟩
      · unfold f5; rw [spec_cone (by omega), h1]; simp only [Option.bind_some, Bool.not_true, cond_false, spec_kinds l ks (show ks.length < k by omega) (by omega), h2]; rfl
      · unfold f7; rw [impl_cone (by omega) l (by omega) (by omega), h1]; simp only [Option.bind_some, Bool.not_true, cond_false, impl_kinds l ks (show ks.length < k by omega) (by omega), h2]; rfl
    | true =>
      by_cases h8 : (l.length : Int) > 8
      · refine ⟨5, [], by simp, by simp, fun k hk => ⟨?_, ?_⟩⟩
        · unfold f5; rw [spec_cone (by omega), h1]; simp only [Option.bind_some, Bool.not_true, cond_false, spec_kinds l ks (show ks.length < k by omega) (by omega), h2]
          rw [show decide ((l.length : Int) > 8) = true from decide_eq_true h8]; rfl
        · unfold f7; rw [impl_cone (by omega) l (by omega) (by omega), h1]; simp only [Option.bind_some, Bool.not_true, cond_false, impl_kinds l ks (show ks.length < k by omega) (by omega), h2]
          rw [show decide ((l.length : Int) > 8) = true from decide_eq_true h8]; rfl
      · have h8' : l.length ≤ 8 := by omega
        have h8f : decide ((l.length : Int) > 8) = false := decide_eq_false h8
        have hc := h1
        unfold cone at hc
        simp only [Bool.and_eq_true, decide_eq_true_eq, beq_iff_eq] at hc
        obtain ⟨⟨c1, c2'⟩, c3, c4, c5, c6⟩ := hc
        have hm := allIn_mem c4
        have hal : al true l = 0 := by have := al_ev true l; omega
        have hkk := h2
        unfold kindsOk at hkk
        simp only [Bool.and_eq_true, decide_eq_true_eq] at hkk
        have hkm := allIn_mem hkk.1
        have hK : ∀ i, i < l.length → g ks i = 2 ∨ g ks i = 3 ∨ g ks i = 4 := fun i hi => by
          have := hkm _ (List.mem_of_getElem? (at_g (l := ks) (i := i) (by omega)))
          omega
        have hnn : l.length * l.length ≤ 64 := Nat.mul_le_mul h8' h8'
        obtain ⟨out, o1, o2, o3⟩ := search_same (X := plc true 0 l) (K := ks) h8' (plc_length _ _ _) hkk.2 (fun i hi => low_right c1 c3 hm hal hi) hK (l.length * l.length) (l.length * l.length) 0 (Nat.le_refl _) (by omega) _ inv0 [] (by simp) (by simp)
        have run : ∀ k, 2097152 ≤ k →
            f25 k 0 (l.length : Int) ks [] (plc true 0 l) (fromN (lo (plc true 0 l) l.length) 0 l.length) (fromN (hi (plc true 0 l) l.length) 0 l.length) (fromN (ord0 (plc true 0 l) l.length) 0 (l.length * l.length)) = some (SRes l.length (plc true 0 l) ks (fromN (ord0 (plc true 0 l) l.length) 0 (l.length * l.length)) out) ∧
            f28 k l ks = some (((), ()), (out, ())) := by
          intro k hk
          obtain ⟨k, rfl⟩ : ∃ q, k = q + 1 := ⟨k - 1, by omega⟩
          obtain ⟨d1, d2⟩ := o3 k (by omega)
          refine ⟨d1, ?_⟩
          unfold f28
          rw [show (l.length : Int) * (l.length : Int) = ((l.length * l.length : Nat) : Int) from rfl, wrN (by omega)]
          simp only [decide_true, dle (show (0 : Int) ≤ ((l.length * l.length : Nat) : Int) by omega), dle (show ((l.length * l.length : Nat) : Int) * 8 ≤ (roomy : Int) by simp only [roomy]; omega), Bool.and_self, cond_true]
          rw [Int.toNat_natCast, impl_new (by omega) h8' hm (by omega), Option.bind_some]
          rw [clr0] at d2
          simp only []
          have d3 : f53 (k + 1) 0 (l.length : Int) ks (l.length : Int) ks (l.length : Int) [] (plc true 0 l) (fromN (sp (plc true 0 l) l.length) 0 l.length) (List.replicate (l.length * l.length) 0) = _ := d2
          rw [d3]; rfl
        by_cases hbig : (out.length : Int) > 400
        · refine ⟨5, [], by simp, by simp, fun k hk => ?_⟩
          obtain ⟨r1, r2⟩ := run k hk
          refine ⟨?_, ?_⟩
          · unfold f5; rw [spec_cone (by omega), h1]
            simp only [Option.bind_some, Bool.not_true, cond_false, spec_kinds l ks (show ks.length < k by omega) (by omega), h2, h8f, spec_new (by omega) h8' hm (show 100 ≤ k by omega) ks, r1]
            rw [show decide ((out.length : Int) > 400) = true from decide_eq_true hbig]; rfl
          · unfold f7; rw [impl_cone (by omega) l (by omega) (by omega), h1]
            simp only [Option.bind_some, Bool.not_true, cond_false, impl_kinds l ks (show ks.length < k by omega) (by omega), h2, h8f, r2]
            rw [show decide ((out.length : Int) > 400) = true from decide_eq_true hbig]; rfl
        · refine ⟨0, out, o1, fun x hx => by rw [o2 x hx]; exact hnn, fun k hk => ?_⟩
          obtain ⟨r1, r2⟩ := run k hk
          refine ⟨?_, ?_⟩
          · unfold f5; rw [spec_cone (by omega), h1]
            simp only [Option.bind_some, Bool.not_true, cond_false, spec_kinds l ks (show ks.length < k by omega) (by omega), h2, h8f, spec_new (by omega) h8' hm (show 100 ≤ k by omega) ks, r1]
            rw [show decide ((out.length : Int) > 400) = false from decide_eq_false hbig]; rfl
          · unfold f7; rw [impl_cone (by omega) l (by omega) (by omega), h1]
            simp only [Option.bind_some, Bool.not_true, cond_false, impl_kinds l ks (show ks.length < k by omega) (by omega), h2, h8f, r2]
            rw [show decide ((out.length : Int) > 400) = false from decide_eq_false hbig]; rfl

theorem tot_64 : ∀ {L : List (List Int)}, (∀ x ∈ L, x.length ≤ 64) → tot L ≤ 64 * L.length
  | [], _ => Nat.le_refl 0
  | x :: L, h => by
    have h1 := h x (List.mem_cons.2 (.inl rfl))
    have h2 := tot_64 (L := L) fun y hy => h y (List.mem_cons.2 (.inr hy))
    simp only [tot, List.length_cons]
    omega

theorem sector_law (l ks : List Int) : f3 4194304 l ks = some ((true, ()), ()) := by
  unfold f3
  by_cases hc : (l.length : Int) > 1048576
  · rw [show decide ((l.length : Int) > 1048576) = true from decide_eq_true hc]; rfl
  rw [show decide ((l.length : Int) > 1048576) = false from decide_eq_false hc, cond_false]
  by_cases hc2 : (ks.length : Int) > 1048576
  · rw [show decide ((ks.length : Int) > 1048576) = true from decide_eq_true hc2]; rfl
  rw [show decide ((ks.length : Int) > 1048576) = false from decide_eq_false hc2, cond_false]
  obtain ⟨c, F, f1, f2, f3⟩ := sector_eq (l := l) (ks := ks) (by omega) (by omega)
  obtain ⟨g1, g2⟩ := f3 4194304 (by omega)
  have ht := tot_64 f2
  have he := eq_intss (k := 4194304) F (by omega) (by omega) (fun x hx => by have := f2 x hx; exact ⟨by omega, by omega⟩)
  have hm := mark_intss (k := 4194304) F (by omega) (by omega) (fun x hx => by have := f2 x hx; exact ⟨by omega, by omega⟩) (by omega)
  have hh := held_intss (k := 4194304) F (by omega) (by omega) (fun x hx => by have := f2 x hx; exact ⟨by omega, by omega⟩) (by omega)
  have m1 := mark_ints (k := 4194304) l (by omega) (by omega) 1 (by omega) (by omega)
  have m2 := mark_ints (k := 4194304) ks (by omega) (by omega) (1 + l.length) (by omega) (by omega)
  simp only [copy (show l.length ≤ 1048576 by omega) (show 2097152 ≤ 4194304 by omega), copy (show ks.length ≤ 1048576 by omega) (show 2097152 ≤ 4194304 by omega), Option.bind_some, g1, g2, he, Bool.not_true, cond_false, bne_self_int, eq_ints (k := 4194304) l (by omega) (by omega), eq_ints (k := 4194304) ks (by omega) (by omega), m1, m2, hm, hh]
  rw [show decide ((1 : Int) + (l.length : Int) + (ks.length : Int) < 0) = false from dnlt (by omega), show decide ((1 : Int) + (tot F : Int) < 0) = false from dnlt (by omega)]
  rfl
end Go.Proofs.Ytlajiknepcjhgaa.R
