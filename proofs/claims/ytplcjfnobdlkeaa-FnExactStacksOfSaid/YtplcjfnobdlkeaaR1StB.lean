/- Folded maps: what the reference's search comes to. -/
import Derived.Test.YtplcjfnobdlkeaaR1StA
namespace Go.Proofs.Ytplcjfnobdlkeaa.R
open Go.Proofs.Ytplcjfnobdlkeaa.R1

theorem push_step {ρ : Type} (k j : Nat) (f : Int × (Int × ((List (List Int)) × (Int × (Int × (List (List Int))))))) (O : List (List Int)) (a : Int) (s : List Int) (i : Nat) (acc : List (List Int)) (nx) {o F : List Int} {m : Option Int}
    (hO : O[i]? = some o) (hF : f.2.2.1[i]? = some F) (ha : getI F a = some (m.getD (-1))) (hm : ∀ y, m = some y → 0 ≤ y) (hk : s.length < k) (hs : s.length ≤ 100) (ho : o.length ≤ 100) (hacc : acc.length ≤ 100) (hi : i ≤ 100)
    (hne : ∀ y, m = some y → y ∈ s → o ≠ []) :
    f36_l3 (ρ := ρ) k (j + 1) f O a s (i : Int) acc nx = match opn1 m s a o with
      | some o' => f36_l3 k j f O a s ((i + 1 : Nat) : Int) (acc ++ [o']) nx
      | none => nx.2.1 (((), false, ()), ()) := by
  have hlen : i < O.length := by
    rcases Nat.lt_or_ge i O.length with q | q
    · exact q
    · rw [List.getElem?_eq_none q] at hO; cases hO
  have ra : ∀ (l : List Int), decide ((acc.length + [l].length) * 24 ≤ roomy) = true := fun l => decide_eq_true (by simp only [roomy, List.length_singleton]; omega)
  have ro : decide ((o.length + [a].length) * 8 ≤ roomy) = true := decide_eq_true (by simp only [roomy, List.length_singleton]; omega)
  simp only [f36_l3, dlt (show (i : Int) < (O.length : Int) by omega), cond_true, getI_nat, hO, hF, Option.bind_some, spec_own k o (by omega), ha, wr_succ (show i < 4611686018427387904 by omega), spec_has s _ hk (by omega)]
  cases m with
  | none => simp only [opn1, Option.getD_none, show decide ((-1 : Int) ≥ 0) = false from rfl, cond_false, ra, cond_true]
  | some y =>
    have hy := hm y rfl
    simp only [Option.getD_some, opn1, decide_eq_true (show y ≥ 0 from hy), cond_true]
    by_cases hys : y ∈ s
    · obtain ⟨z, z1, z2, z3, z4⟩ := last_get o (hne y rfl hys) (by omega)
      simp only [hys, decide_true, Bool.not_true, cond_false, if_true, z1, z2, Int.toNat_natCast, z3, Option.bind_some, bnd z4, cond_true]
      rw [show (decide (0 ≤ ((o.length - 1 : Nat) : Int)) && decide (((o.length - 1 : Nat) : Int) ≤ (o.length : Int))) = true by rw [dle (by omega), dle (by omega)]; rfl]
      simp only [cond_true, ra]
      by_cases hzy : z = y
      · subst hzy
        rw [bne_self_int, cond_false, if_pos rfl, List.dropLast_eq_take]
      · rw [show (z != y) = true by simpa using hzy, cond_true, if_neg (by intro h; injection h with h; exact hzy h)]
    · simp only [hys, decide_false, Bool.not_false, cond_true, ro, ra]
      rfl

/-- The reference's table of mates. -/
structure TabS (M : Mt) (n : Nat) (F : List (List Int)) : Prop where
  at1 : ∃ G, F[0]? = some G ∧ ∀ a, a < n → getI G ((a : Nat) : Int) = some ((M.m1 a).getD (-1))
  at2 : ∃ G, F[1]? = some G ∧ ∀ a, a < n → getI G ((a : Nat) : Int) = some ((M.m2 a).getD (-1))
  at3 : ∃ G, F[2]? = some G ∧ ∀ a, a < n → getI G ((a : Nat) : Int) = some ((M.m3 a).getD (-1))
  at4 : ∃ G, F[3]? = some G ∧ ∀ a, a < n → getI G ((a : Nat) : Int) = some ((M.m4 a).getD (-1))

theorem push_ev {M : Mt} (S : Syms M) {n : Nat} {F : List (List Int)} (T : TabS M n F) {k : Nat} {s : List Int} {o : O4} {a : Nat} (h : Inv M s o) (ha : ((a : Nat) : Int) ∉ s) (han : a < n) (hk : 10 ≤ k) (hsk : s.length < k) (hs : s.length ≤ 100) (x0 x1 x3 x4 : Int) (x5 : List (List Int)) :
    ∃ q, f36 k (x0, (x1, (F, (x3, (x4, x5))))) o.l a s = some (((), (opn4 M s a o).isSome, ()), (q, ())) ∧ ∀ o', opn4 M s a o = some o' → q = o'.l := by
  obtain ⟨k, rfl⟩ : ∃ q, k = q + 5 := ⟨k - 5, by omega⟩
  obtain ⟨G1, f1, g1⟩ := T.at1
  obtain ⟨G2, f2, g2⟩ := T.at2
  obtain ⟨G3, f3, g3⟩ := T.at3
  obtain ⟨G4, f4, g4⟩ := T.at4
  unfold f36
  have e1 := fun nx => push_step (ρ := (Unit × Bool × Unit) × ((List (List Int)) × Unit)) (k + 5) (k + 4) (x0, (x1, (F, (x3, (x4, x5))))) o.l a s 0 [] nx (o := o.o1) (F := G1) (m := M.m1 a) rfl f1 (g1 a han) (fun y hy => (S.h1 _ _ hy).2) hsk hs (by have := h.h1.2; omega) (by simp) (by omega) (fun y hy => open_ne S.h1 h.h1 ha hy)
  have e2 := fun p1 nx => push_step (ρ := (Unit × Bool × Unit) × ((List (List Int)) × Unit)) (k + 5) (k + 3) (x0, (x1, (F, (x3, (x4, x5))))) o.l a s 1 [p1] nx (o := o.o2) (F := G2) (m := M.m2 a) rfl f2 (g2 a han) (fun y hy => (S.h2 _ _ hy).2) hsk hs (by have := h.h2.2; omega) (by simp) (by omega) (fun y hy => open_ne S.h2 h.h2 ha hy)
  have e3 := fun p1 p2 nx => push_step (ρ := (Unit × Bool × Unit) × ((List (List Int)) × Unit)) (k + 5) (k + 2) (x0, (x1, (F, (x3, (x4, x5))))) o.l a s 2 [p1, p2] nx (o := o.o3) (F := G3) (m := M.m3 a) rfl f3 (g3 a han) (fun y hy => (S.h3 _ _ hy).2) hsk hs (by have := h.h3.2; omega) (by simp) (by omega) (fun y hy => open_ne S.h3 h.h3 ha hy)
  have e4 := fun p1 p2 p3 nx => push_step (ρ := (Unit × Bool × Unit) × ((List (List Int)) × Unit)) (k + 5) (k + 1) (x0, (x1, (F, (x3, (x4, x5))))) o.l a s 3 [p1, p2, p3] nx (o := o.o4) (F := G4) (m := M.m4 a) rfl f4 (g4 a han) (fun y hy => (S.h4 _ _ hy).2) hsk hs (by have := h.h4.2; omega) (by simp) (by omega) (fun y hy => open_ne S.h4 h.h4 ha hy)
  rw [show (0 : Int) = ((0 : Nat) : Int) from rfl, e1]
  unfold opn4
  cases q1 : opn1 (M.m1 a) s a o.o1 with
  | none => exact ⟨[], rfl, fun o' h => by cases h⟩
  | some p1 =>
    simp only [List.nil_append, Option.bind_some]
    rw [show ((0 + 1 : Nat) : Int) = ((1 : Nat) : Int) from rfl, e2]
    cases q2 : opn1 (M.m2 a) s a o.o2 with
    | none => exact ⟨[], rfl, fun o' h => by cases h⟩
    | some p2 =>
      simp only [List.cons_append, List.nil_append, Option.bind_some]
      rw [show ((1 + 1 : Nat) : Int) = ((2 : Nat) : Int) from rfl, e3]
      cases q3 : opn1 (M.m3 a) s a o.o3 with
      | none => exact ⟨[], rfl, fun o' h => by cases h⟩
      | some p3 =>
        simp only [List.cons_append, List.nil_append, Option.bind_some]
        rw [show ((2 + 1 : Nat) : Int) = ((3 : Nat) : Int) from rfl, e4]
        cases q4 : opn1 (M.m4 a) s a o.o4 with
        | none => exact ⟨[], rfl, fun o' h => by cases h⟩
        | some p4 =>
          refine ⟨[p1, p2, p3, p4], ?_, fun o' h => by injection h with h; subst h; rfl⟩
          simp only [List.cons_append, List.nil_append, Option.bind_some]
          rfl

/-- What the reference keeps of a stack. -/
def vis (most : Int) (z : Int × List (List Int)) (s : List Int) : Int × List (List Int) := if most > 0 ∧ z.1 = most then z else (wr .i64 (z.1 + 1), if (z.2.length : Int) < most then z.2 ++ [s] else z.2)

def full (most : Int) (z : Int × List (List Int)) : Prop := most > 0 ∧ z.1 = most

theorem vis_full {most : Int} {z : Int × List (List Int)} (h : full most z) : ∀ L : List (List Int), L.foldl (vis most) z = z
  | [] => rfl
  | x :: L => by rw [List.foldl_cons, show vis most z x = z from if_pos h]; exact vis_full h L

def SRes (r c most : Int) (F : List (List Int)) (z : Int × List (List Int)) : Unit × ((Int × Int × Unit × Int × Int × Unit × Unit) × (List (List Int)) × (List (List Int)) × Unit) := ((), ((r, c, (), most, z.1, (), ()), F, z.2, ()))

theorem search_ev {M : Mt} (S : Syms M) {n : Nat} {F : List (List Int)} (T : TabS M n F) {r c most : Int} (hn : wr .i64 (r * c) = (n : Int)) (hn9 : n ≤ 9) (hmost : most ≤ 200) :
    ∀ (d : Nat) (s : List Int) (o : O4) (z : Int × List (List Int)) (k : Nat), s.length + d = n → d + 30 ≤ k → Inv M s o → ¬ full most z →
      f26 k o.l s r c most z.1 F z.2 = some (SRes r c most F ((stk M n d s o).foldl (vis most) z))
  | 0, s, o, z, k, hd, hk, hi, hz => by
    obtain ⟨k, rfl⟩ : ∃ q, k = q + 1 := ⟨k - 1, by omega⟩
    unfold f26
    simp only [hn]
    rw [show ((s.length : Int) == (n : Int)) = true by simp; omega, cond_true]
    have hv : vis most z s = (wr .i64 (z.1 + 1), if (z.2.length : Int) < most then z.2 ++ [s] else z.2) := if_neg hz
    simp only [stk, List.foldl_cons, List.foldl_nil, hv]
    by_cases hl : (z.2.length : Int) < most
    · rw [dlt hl, cond_true, spec_own k s (by omega), Option.bind_some, if_pos hl]
      rw [show decide ((z.2.length + [((((), ()), (s, ())) : (Unit × Unit) × (List Int × Unit)).2.1].length) * 24 ≤ roomy) = true from decide_eq_true (by simp only [roomy, List.length_singleton]; omega)]
      rfl
    · rw [dnlt (by omega), cond_false, if_neg hl]; rfl
  | d + 1, s, o, z, k, hd, hk, hi, hz => by
    obtain ⟨k, rfl⟩ : ∃ q, k = q + 1 := ⟨k - 1, by omega⟩
    have loop : ∀ (cnt i : Nat), i + cnt = n → ∀ j, cnt < j → ∀ (z : Int × List (List Int)) (nx),
        f26_l6 (ρ := Unit × ((Int × Int × Unit × Int × Int × Unit × Unit) × (List (List Int)) × (List (List Int)) × Unit)) (f26 k) k j o.l s (n : Int) (i : Int) r c most z.1 F z.2 nx = nx.1 (SRes r c most F ((fm (fun a => if (a : Int) ∈ s then [] else match opn4 M s a o with | none => [] | some o' => stk M n d (s ++ [(a : Int)]) o') i cnt).foldl (vis most) z)) := by
      intro cnt
      induction cnt with
      | zero =>
        intro i hi' j hj z nx
        obtain ⟨j, rfl⟩ : ∃ q, j = q + 1 := ⟨j - 1, by omega⟩
        unfold f26_l6
        rw [dnlt (by omega), cond_false]; rfl
      | succ cnt ih =>
        intro i hi' j hj z nx
        obtain ⟨j, rfl⟩ : ∃ q, j = q + 1 := ⟨j - 1, by omega⟩
        unfold f26_l6
        rw [dlt (by omega), cond_true, spec_has s _ (by omega) (by omega), Option.bind_some]
        simp only [wr_succ (show i < 4611686018427387904 by omega), fm, List.foldl_append]
        by_cases hmem : (i : Int) ∈ s
        · simp only [hmem, decide_true, cond_true, if_true, List.foldl_nil]
          exact ih (i + 1) (by omega) j (by omega) z nx
        · simp only [hmem, decide_false, cond_false, if_false]
          by_cases hf : full most z
          · rw [dlt (show most > 0 from hf.1), cond_true, show (z.1 == most) = true by simpa using hf.2, cond_true, vis_full hf]
            exact ih (i + 1) (by omega) j (by omega) z nx
          · have join : ∀ (K : _ → Option _), (∀ zz : Int × List (List Int), K (((), o.l, s, (n : Int), (i : Int), ()), ((r, c, (), most, zz.1, (), ()), F, zz.2, ())) = f26_l6 (ρ := Unit × ((Int × Int × Unit × Int × Int × Unit × Unit) × (List (List Int)) × (List (List Int)) × Unit)) (f26 k) k j o.l s (n : Int) ((i + 1 : Nat) : Int) r c most zz.1 F zz.2 nx) →
                f26_j9 (f26 k) k o.l s (n : Int) (i : Int) r c most z.1 F z.2 (K, ()) = nx.1 (SRes r c most F ((fm (fun a => if (a : Int) ∈ s then [] else match opn4 M s a o with | none => [] | some o' => stk M n d (s ++ [(a : Int)]) o') (i + 1) cnt).foldl (vis most) ((match opn4 M s i o with | none => [] | some o' => stk M n d (s ++ [(i : Int)]) o').foldl (vis most) z))) := by
              intro K hK
              unfold f26_j9
              obtain ⟨q, h1, h2⟩ := push_ev S T hi hmem (show i < n by omega) (show 10 ≤ k by omega) (by omega) (by omega) r c most z.1 z.2
              rw [h1, Option.bind_some]
              cases ho : opn4 M s i o with
              | none =>
                simp only [ho, Option.isSome_none, cond_false, List.foldl_nil]
                rw [hK]; exact ih (i + 1) (by omega) j (by omega) z nx
              | some o' =>
                have := h2 o' ho
                subst this
                simp only [ho, Option.isSome_some, cond_true]
                rw [spec_own k s (by omega), Option.bind_some]
                simp only []
                rw [show decide ((s.length + [(i : Int)].length) * 8 ≤ roomy) = true from decide_eq_true (by simp only [roomy, List.length_singleton]; omega), cond_true]
                rw [search_ev S T hn hn9 hmost d (s ++ [(i : Int)]) o' z k (by simp; omega) (by omega) (hi.step S hmem ho) hf, Option.bind_some]
                simp only [SRes]
                rw [hK]; exact ih (i + 1) (by omega) j (by omega) _ nx
            by_cases hm0 : most > 0
            · rw [dlt (show most > 0 from hm0), cond_true, show (z.1 == most) = false by simpa using fun h => hf ⟨hm0, h⟩, cond_false]
              exact join _ fun zz => by simp only [wr_succ (show i < 4611686018427387904 by omega)]
            · rw [show decide (most > 0) = false from decide_eq_false hm0, cond_false]
              exact join _ fun zz => by simp only [wr_succ (show i < 4611686018427387904 by omega)]
    unfold f26
    simp only [hn]
    rw [show ((s.length : Int) == (n : Int)) = false by simp; omega, cond_false]
    rw [show (0 : Int) = ((0 : Nat) : Int) from rfl, loop n 0 (by omega) k (by omega) z]
    rfl
end Go.Proofs.Ytplcjfnobdlkeaa.R
