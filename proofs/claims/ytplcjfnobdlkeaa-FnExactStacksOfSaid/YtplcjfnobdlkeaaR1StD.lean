/- Folded maps: what the program's walk comes to. -/
import Derived.Test.YtplcjfnobdlkeaaR1StC
namespace Go.Proofs.Ytplcjfnobdlkeaa.R
open Go.Proofs.Ytplcjfnobdlkeaa.R1

def incr (c : Int) (_ : List Int) : Int := wr .i64 (c + 1)

section
variable {M : Mt} {M0 M1 M2 M3 M4 : MapL} {n : Nat} {b0 b1 b2 b3 b4 : Bool} {o0 : List Int}

abbrev branch (M : Mt) (n d : Nat) (s : List Int) (o : O4) (a : Nat) : List (List Int) := if (a : Int) ∈ s then [] else match opn4 M s a o with | none => [] | some o' => stk M n d (s ++ [(a : Int)]) o'

theorem walkC (S : Syms M) (e1 : mget M1 = M.m1) (e2 : mget M2 = M.m2) (e3 : mget M3 = M.m3) (e4 : mget M4 = M.m4) (hn9 : n ≤ 9) :
    ∀ (d : Nat) (s : List Int) (o : O4) (c : Int) (k : Nat), s.length + d = n → d + 30 ≤ k → Inv M s o →
      f17 k s n b0 b1 b2 b3 b4 o0 o.o1 o.o2 o.o3 o.o4 M0 M1 M2 M3 M4 c = some ((true, ()), stC n b0 b1 b2 b3 b4 o0 o.o1 o.o2 o.o3 o.o4 M0 M1 M2 M3 M4 ((stk M n d s o).foldl incr c))
  | 0, s, o, c, k, hd, hk, hi => by
    obtain ⟨k, rfl⟩ : ∃ q, k = q + 1 := ⟨k - 1, by omega⟩
    simp only [f17, f29, Option.bind_some]
    rw [show ((s.length : Int) == (n : Int)) = true by simp; omega, cond_true]
    rfl
  | d + 1, s, o, c, k, hd, hk, hi => by
    obtain ⟨k, rfl⟩ : ∃ q, k = q + 1 := ⟨k - 1, by omega⟩
    have loop : ∀ (cnt i : Nat), i + cnt = n → ∀ j, cnt < j → ∀ (c : Int) (nx),
        f17_l4 (ρ := (Bool × Unit) × TC) (f17 k) k j s (n : Int) (i : Int) n b0 b1 b2 b3 b4 o0 o.o1 o.o2 o.o3 o.o4 M0 M1 M2 M3 M4 c nx = nx.1 ((), stC n b0 b1 b2 b3 b4 o0 o.o1 o.o2 o.o3 o.o4 M0 M1 M2 M3 M4 ((fm (branch M n d s o) i cnt).foldl incr c)) := by
      intro cnt
      induction cnt with
      | zero =>
        intro i hi' j hj c nx
        obtain ⟨j, rfl⟩ : ∃ q, j = q + 1 := ⟨j - 1, by omega⟩
        simp only [f17_l4]
        rw [dnlt (by omega), cond_false]; rfl
      | succ cnt ih =>
        intro i hi' j hj c nx
        obtain ⟨j, rfl⟩ : ∃ q, j = q + 1 := ⟨j - 1, by omega⟩
        simp only [f17_l4]
        rw [dlt (by omega), cond_true, impl_has s _ (by omega) (by omega), Option.bind_some]
        simp only [wr_succ (show i < 4611686018427387904 by omega), fm, List.foldl_append, branch]
        by_cases hmem : (i : Int) ∈ s
        · simp only [hmem, decide_true, cond_true, if_true, List.foldl_nil]
          exact ih (i + 1) (by omega) j (by omega) c nx
        · simp only [hmem, decide_false, cond_false, if_false]
          have hp := placeC S e1 e2 e3 e4 hi hmem (show 10 ≤ k by omega) (by omega) (by omega) n b0 b1 b2 b3 b4 o0 c (M0 := M0)
          cases ho : opn4 M s i o with
          | none =>
            rw [ho] at hp
            obtain ⟨q1, q2, q3, q4, hp⟩ := hp
            rw [hp, Option.bind_some]
            simp only [cond_false, List.foldl_nil]
            exact ih (i + 1) (by omega) j (by omega) c nx
          | some o' =>
            rw [ho] at hp
            simp only [] at hp
            rw [hp, Option.bind_some]
            simp only [cond_true]
            rw [impl_clone k s (by omega), Option.bind_some]
            simp only []
            rw [show decide ((s.length + [(i : Int)].length) * 8 ≤ roomy) = true from decide_eq_true (by simp only [roomy, List.length_singleton]; omega), cond_true]
            rw [walkC S e1 e2 e3 e4 hn9 d (s ++ [(i : Int)]) o' c k (by simp; omega) (by omega) (hi.step S hmem ho), Option.bind_some]
            simp only [Bool.not_true, cond_false]
            exact ih (i + 1) (by omega) j (by omega) _ nx
    simp only [f17, f29, Option.bind_some]
    rw [show ((s.length : Int) == (n : Int)) = false by simp; omega, cond_false]
    refine (loop n 0 (by omega) k (by omega) c _).trans ?_
    rfl

def visO (most : Int) (out : List (List Int)) (s : List Int) : List (List Int) := if (out.length : Int) < most then out ++ [s] else out

theorem visO_full {most : Int} {out : List (List Int)} (h : ¬ (out.length : Int) < most) : ∀ L : List (List Int), L.foldl (visO most) out = out
  | [] => rfl
  | x :: L => by rw [List.foldl_cons, show visO most out x = out from if_neg h]; exact visO_full h L

theorem walkS (S : Syms M) (e1 : mget M1 = M.m1) (e2 : mget M2 = M.m2) (e3 : mget M3 = M.m3) (e4 : mget M4 = M.m4) (hn9 : n ≤ 9) {most : Int} (hmost : most ≤ 200) :
    ∀ (d : Nat) (s : List Int) (o : O4) (out : List (List Int)) (k : Nat), s.length + d = n → d + 30 ≤ k → Inv M s o → (out.length : Int) < most →
      ∃ q1 q2 q3 q4, f17a k n b0 b1 b2 b3 b4 o0 o.o1 o.o2 o.o3 o.o4 most s M0 M1 M2 M3 M4 out = some ((decide ((((stk M n d s o).foldl (visO most) out).length : Int) < most), ()), stS n b0 b1 b2 b3 b4 o0 q1 q2 q3 q4 most M0 M1 M2 M3 M4 ((stk M n d s o).foldl (visO most) out))
  | 0, s, o, out, k, hd, hk, hi, hout => by
    obtain ⟨k, rfl⟩ : ∃ q, k = q + 1 := ⟨k - 1, by omega⟩
    refine ⟨o.o1, o.o2, o.o3, o.o4, ?_⟩
    simp only [f17a, f29, Option.bind_some]
    rw [show ((s.length : Int) == (n : Int)) = true by simp; omega, cond_true]
    unfold f20 f21
    rw [show decide ((out.length + [s].length) * 24 ≤ roomy) = true from decide_eq_true (by simp only [roomy, List.length_singleton]; omega)]
    simp only [stk, List.foldl_cons, List.foldl_nil, visO, if_pos hout, cond_true, Option.bind_some]
  | d + 1, s, o, out, k, hd, hk, hi, hout => by
    obtain ⟨k, rfl⟩ : ∃ q, k = q + 1 := ⟨k - 1, by omega⟩
    have loop : ∀ (cnt i : Nat), i + cnt = n → ∀ j, cnt < j → ∀ (out : List (List Int)) (nx), (out.length : Int) < most →
        (((((fm (branch M n d s o) i cnt).foldl (visO most) out).length : Int) < most) ∧ f17a_l4 (ρ := (Bool × Unit) × TS) (f17a k) k j s (n : Int) (i : Int) n b0 b1 b2 b3 b4 o0 o.o1 o.o2 o.o3 o.o4 most M0 M1 M2 M3 M4 out nx = nx.1 ((), stS n b0 b1 b2 b3 b4 o0 o.o1 o.o2 o.o3 o.o4 most M0 M1 M2 M3 M4 ((fm (branch M n d s o) i cnt).foldl (visO most) out))) ∨
        (¬ ((((fm (branch M n d s o) i cnt).foldl (visO most) out).length : Int) < most) ∧ ∃ q1 q2 q3 q4, f17a_l4 (ρ := (Bool × Unit) × TS) (f17a k) k j s (n : Int) (i : Int) n b0 b1 b2 b3 b4 o0 o.o1 o.o2 o.o3 o.o4 most M0 M1 M2 M3 M4 out nx = nx.2.1 ((false, ()), stS n b0 b1 b2 b3 b4 o0 q1 q2 q3 q4 most M0 M1 M2 M3 M4 ((fm (branch M n d s o) i cnt).foldl (visO most) out))) := by
      intro cnt
      induction cnt with
      | zero =>
        intro i hi' j hj out nx hout
        obtain ⟨j, rfl⟩ : ∃ q, j = q + 1 := ⟨j - 1, by omega⟩
        refine .inl ⟨hout, ?_⟩
        simp only [f17a_l4]
        rw [dnlt (by omega), cond_false]; rfl
      | succ cnt ih =>
        intro i hi' j hj out nx hout
        obtain ⟨j, rfl⟩ : ∃ q, j = q + 1 := ⟨j - 1, by omega⟩
        simp only [f17a_l4]
        rw [dlt (by omega), cond_true, impl_has s _ (by omega) (by omega), Option.bind_some]
        simp only [wr_succ (show i < 4611686018427387904 by omega), fm, List.foldl_append, branch]
        by_cases hmem : (i : Int) ∈ s
        · simp only [hmem, decide_true, cond_true, if_true, List.foldl_nil]
          exact ih (i + 1) (by omega) j (by omega) out nx hout
        · simp only [hmem, decide_false, cond_false, if_false]
          have hp := placeS S e1 e2 e3 e4 hi hmem (show 10 ≤ k by omega) (by omega) (by omega) n b0 b1 b2 b3 b4 o0 most out (M0 := M0)
          cases ho : opn4 M s i o with
          | none =>
            rw [ho] at hp
            obtain ⟨q1, q2, q3, q4, hp⟩ := hp
            rw [hp, Option.bind_some]
            simp only [cond_false, List.foldl_nil]
            exact ih (i + 1) (by omega) j (by omega) out nx hout
          | some o' =>
            rw [ho] at hp
            simp only [] at hp
            rw [hp, Option.bind_some]
            simp only [cond_true]
            rw [impl_clone k s (by omega), Option.bind_some]
            simp only []
            rw [show decide ((s.length + [(i : Int)].length) * 8 ≤ roomy) = true from decide_eq_true (by simp only [roomy, List.length_singleton]; omega), cond_true]
            obtain ⟨q1, q2, q3, q4, hw⟩ := walkS S e1 e2 e3 e4 hn9 hmost d (s ++ [(i : Int)]) o' out k (by simp; omega) (by omega) (hi.step S hmem ho) hout
            rw [hw, Option.bind_some]
            by_cases hlt : ((((stk M n d (s ++ [(i : Int)]) o').foldl (visO most) out).length : Int) < most)
            · simp only [hlt, decide_true, Bool.not_true, cond_false]
              exact ih (i + 1) (by omega) j (by omega) _ nx hlt
            · simp only [hlt, decide_false, Bool.not_false, cond_true]
              refine .inr ⟨?_, q1, q2, q3, q4, ?_⟩
              · rw [visO_full hlt]; exact hlt
              · rw [visO_full hlt]
    simp only [f17a, f29, Option.bind_some]
    rw [show ((s.length : Int) == (n : Int)) = false by simp; omega, cond_false]
    rcases loop n 0 (by omega) k (by omega) out _ hout with ⟨h1, h2⟩ | ⟨h1, q1, q2, q3, q4, h2⟩
    · refine ⟨o.o1, o.o2, o.o3, o.o4, h2.trans ?_⟩
      have h1' : (((stk M n (d + 1) s o).foldl (visO most) out).length : Int) < most := h1
      rw [decide_eq_true h1']; rfl
    · refine ⟨q1, q2, q3, q4, h2.trans ?_⟩
      have h1' : ¬ (((stk M n (d + 1) s o).foldl (visO most) out).length : Int) < most := h1
      rw [decide_eq_false h1']; rfl
end
end Go.Proofs.Ytplcjfnobdlkeaa.R
