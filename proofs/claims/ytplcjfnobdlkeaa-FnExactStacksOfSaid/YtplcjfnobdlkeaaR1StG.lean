/- Folded maps: both sides answer alike; the laws. -/
import Derived.Test.YtplcjfnobdlkeaaR1StF
namespace Go.Proofs.Ytplcjfnobdlkeaa.R
open Go.Proofs.Ytplcjfnobdlkeaa.R1

def okM (r c : Int) : Bool := (decide (r ≥ 1) && decide (r ≤ 12)) && ((decide (c ≥ 1) && decide (c ≤ 12)) && decide (wr .i64 (r * c) ≤ 12))

theorem spec_in (k : Nat) (x a b : Int) : f18 k x a b = some ((decide (x ≥ a) && decide (x ≤ b), ()), ()) := by
  unfold f18; cases decide (x ≥ a) <;> rfl

theorem impl_in (k : Nat) (x a b : Int) : f19 k x a b = some ((decide (x ≥ a) && decide (x ≤ b), ()), ()) := by
  unfold f19; cases decide (x ≥ a) <;> rfl

theorem spec_ok (k : Nat) (r c : Int) : f12 k r c = some ((okM r c, ()), ()) := by
  unfold f12 okM
  simp only [spec_in, Option.bind_some]
  cases (decide (r ≥ 1) && decide (r ≤ 12)) <;> cases (decide (c ≥ 1) && decide (c ≤ 12)) <;> rfl

theorem impl_ok (k : Nat) (r c : Int) : f27 k r c = some ((okM r c, ()), ()) := by
  unfold f27 okM
  simp only [impl_in, Option.bind_some]
  cases (decide (r ≥ 1) && decide (r ≤ 12)) <;> cases (decide (c ≥ 1) && decide (c ≤ 12)) <;> rfl

theorem vis0 : ∀ (L : List (List Int)) (c : Int), L.foldl (vis 0) (c, []) = (L.foldl incr c, [])
  | [], _ => rfl
  | x :: L, c => by
    rw [List.foldl_cons, List.foldl_cons, show vis 0 (c, []) x = (incr c x, []) from rfl]; exact vis0 L _

theorem visS {most : Int} (h0 : 0 < most) (h1 : most ≤ 200) : ∀ (L : List (List Int)) (out : List (List Int)), (out.length : Int) ≤ most → L.foldl (vis most) ((out.length : Int), out) = (((L.foldl (visO most) out).length : Int), L.foldl (visO most) out)
  | [], _, _ => rfl
  | x :: L, out, h => by
    rw [List.foldl_cons, List.foldl_cons]
    by_cases hl : (out.length : Int) < most
    · rw [show vis most ((out.length : Int), out) x = (((out ++ [x]).length : Int), out ++ [x]) by
        unfold vis
        rw [if_neg (by rintro ⟨_, h⟩; simp only at h; omega), if_pos hl, wr_succ (by omega)]; simp]
      rw [show visO most out x = out ++ [x] from if_pos hl]
      exact visS h0 h1 L _ (by simp; omega)
    · rw [show vis most ((out.length : Int), out) x = ((out.length : Int), out) from if_pos ⟨h0, by simp only; omega⟩, show visO most out x = out from if_neg hl]
      exact visS h0 h1 L _ h

theorem fm_mem {α : Type} {f : Nat → List α} {x : α} : ∀ {c i : Nat}, x ∈ fm f i c → ∃ a, x ∈ f a
  | 0, _, h => by cases h
  | c + 1, i, h => by
    rcases List.mem_append.1 h with h | h
    · exact ⟨i, h⟩
    · exact fm_mem h

theorem stk_len {M : Mt} {n : Nat} : ∀ {d : Nat} {s : List Int} {o : O4} {x : List Int}, x ∈ stk M n d s o → x.length = s.length + d
  | 0, s, o, x, h => by rw [List.mem_singleton.1 h]; rfl
  | d + 1, s, o, x, h => by
    obtain ⟨a, ha⟩ := fm_mem h
    split at ha
    · cases ha
    · split at ha
      · cases ha
      · have := stk_len ha; simp at this; omega

theorem visO_mem {most : Int} : ∀ {L : List (List Int)} {out : List (List Int)} {x : List Int}, x ∈ L.foldl (visO most) out → x ∈ out ∨ x ∈ L
  | [], _, _, h => .inl h
  | y :: L, out, x, h => by
    rcases visO_mem (L := L) h with h | h
    · unfold visO at h
      split at h
      · rcases List.mem_append.1 h with h | h
        · exact .inl h
        · exact .inr (List.mem_cons.2 (.inl (List.mem_singleton.1 h)))
      · exact .inl h
    · exact .inr (List.mem_cons.2 (.inr h))

theorem visO_len {most : Int} : ∀ {L : List (List Int)} {out : List (List Int)}, (out.length : Int) ≤ most → ((L.foldl (visO most) out).length : Int) ≤ most
  | [], _, h => h
  | y :: L, out, h => by
    refine visO_len (L := L) ?_
    unfold visO
    split
    · simp; omega
    · exact h

/-- What is known of a small map. -/
structure Known (r c n : Nat) (M : Mt) (F : List (List Int)) : Prop where
  syms : Syms M
  tab : TabS M n F
  n9 : n ≤ 9
  nn : wr .i64 ((r : Int) * (c : Int)) = (n : Int)
  sm : f25 300 (r : Int) (c : Int) = some (((), ()), (F, ()))
  im : ∃ b0 b1 b2 b3 b4 M0 M1 M2 M3 M4, mget M1 = M.m1 ∧ mget M2 = M.m2 ∧ mget M3 = M.m3 ∧ mget M4 = M.m4 ∧ mates (r : Int) (c : Int) = some (((), ()), ((0, ()), ((n : Int), b0, b1, b2, b3, b4, (), (), (), (), (), ((), ()), ()), M0, M1, M2, M3, M4, ()))

theorem known {r c : Nat} (hr : 1 ≤ r) (hc : 1 ≤ c) (h : r * c ≤ 9) : ∃ M F, Known r c (r * c) M F := by
  have h1 : r ≤ 9 := Nat.le_trans (Nat.le_mul_of_pos_right r (by omega)) h
  have h2 : c ≤ 9 := Nat.le_trans (Nat.le_mul_of_pos_left c (by omega)) h
  have hk := List.all_eq_true.1 (List.all_eq_true.1 chk_all r (List.mem_range.2 (by omega))) c (List.mem_range.2 (by omega))
  have hp : 0 < r * c := Nat.mul_pos hr hc
  rw [show Nat.blt 9 (r * c) = false by
      cases e : Nat.blt 9 (r * c) with
      | false => rfl
      | true => rw [Nat.blt_eq] at e; omega, show Nat.beq (r * c) 0 = false by
      cases e : Nat.beq (r * c) 0 with
      | false => rfl
      | true => have := Nat.eq_of_beq_eq_true e; omega, Bool.false_or, Bool.false_or] at hk
  unfold chk at hk
  split at hk
  case h_2 => cases hk
  rename_i x y ex ey
  simp only [Bool.and_eq_true] at hk
  obtain ⟨⟨⟨⟨⟨⟨⟨⟨⟨k1, k2⟩, k3⟩, k4⟩, k5⟩, k6⟩, k7⟩, k8⟩, k9⟩, k10⟩ := hk
  refine ⟨⟨mget x.2.2.2.2.1, mget x.2.2.2.2.2.1, mget x.2.2.2.2.2.2.1, mget x.2.2.2.2.2.2.2.1⟩, y.2.1, ⟨⟨sym_of k3, sym_of k4, sym_of k5, sym_of k6⟩, ⟨at_of k7, at_of k8, at_of k9, at_of k10⟩, h, ?_, ey.trans rfl, ?_⟩⟩
  · rw [← Int.natCast_mul, wr_id (by omega) (by omega)]
  · have k1 := of_decide_eq_true k1
    have k2 := of_decide_eq_true k2
    refine ⟨x.2.2.1.2.1, x.2.2.1.2.2.1, x.2.2.1.2.2.2.1, x.2.2.1.2.2.2.2.1, x.2.2.1.2.2.2.2.2.1, x.2.2.2.1, x.2.2.2.2.1, x.2.2.2.2.2.1, x.2.2.2.2.2.2.1, x.2.2.2.2.2.2.2.1, rfl, rfl, rfl, rfl, ?_⟩
    rw [ex, ← k1, ← k2]

theorem count_law (r c : Int) : f3 300 r c = some ((true, ()), ()) := by
  have key : ∃ a b, f5 300 r c = some ((a, b, ()), ()) ∧ f6 300 r c = some ((a, b, ()), ()) := by
    unfold f5 f6 f14
    simp only [spec_ok, impl_ok, Option.bind_some]
    cases h : okM r c with
    | false => exact ⟨0, 1, rfl, rfl⟩
    | true =>
      simp only [Bool.not_true, cond_false]
      cases h9 : decide (wr .i64 (r * c) > 9) with
      | true => exact ⟨0, 2, rfl, rfl⟩
      | false =>
        unfold okM at h
        simp only [Bool.and_eq_true, decide_eq_true_eq] at h
        obtain ⟨⟨r1, r2⟩, ⟨c1, c2⟩, _⟩ := h
        have h9 := of_decide_eq_false h9
        obtain ⟨r, rfl⟩ : ∃ q : Nat, r = (q : Int) := ⟨r.toNat, by omega⟩
        obtain ⟨c, rfl⟩ : ∃ q : Nat, c = (q : Int) := ⟨c.toNat, by omega⟩
        have hb : r * c ≤ 12 * 12 := Nat.mul_le_mul (by omega) (by omega)
        rw [← Int.natCast_mul, wr_id (by omega) (by omega)] at h9
        obtain ⟨M, F, K⟩ := known (r := r) (c := c) (by omega) (by omega) (by omega)
        obtain ⟨b0, b1, b2, b3, b4, M0, M1, M2, M3, M4, e1, e2, e3, e4, em⟩ := K.im
        have hs := search_ev (most := 0) K.syms K.tab K.nn K.n9 (by omega) (r * c) [] ⟨[], [], [], []⟩ (0, []) 300 (by simp) (by have := K.n9; omega) (Inv.zero M) (by rintro ⟨h, _⟩; omega)
        have hw := walkC (M0 := M0) (b0 := b0) (b1 := b1) (b2 := b2) (b3 := b3) (b4 := b4) (o0 := []) K.syms e1 e2 e3 e4 K.n9 (r * c) [] ⟨[], [], [], []⟩ 0 300 (by simp) (by have := K.n9; omega) (Inv.zero M)
        have em' : f15 300 (r : Int) (c : Int) 0 = _ := em
        refine ⟨((stk M (r * c) (r * c) [] ⟨[], [], [], []⟩).foldl incr 0), 0, ?_, ?_⟩
        · unfold f13
          rw [K.sm]
          simp only [cond_false, Option.bind_some]
          have hs' : f26 300 ([([] : List Int), ([] : List Int), ([] : List Int), ([] : List Int)]) ([] : List Int) (r : Int) (c : Int) 0 0 F ([] : List (List Int)) = _ := hs
          rw [hs', vis0]
          rfl
        · rw [em']
          simp only [cond_false, Option.bind_some, bne_self_int]
          rw [hw]
          rfl
  obtain ⟨a, b, h1, h2⟩ := key
  unfold f3
  rw [h1, h2]
  simp only [Option.bind_some, bne_self_int, cond_false]

theorem stacks_eq (r c most : Int) : ∃ (e : Int) (F : List (List Int)), F.length ≤ 200 ∧ (∀ x ∈ F, x.length ≤ 200) ∧ f7 300 r c most = some (((), e, ()), (F, ())) ∧ f8 300 r c most = some (((), e, ()), (F, ())) := by
  unfold f7 f8 f14
  simp only [spec_ok, impl_ok, spec_in, impl_in, Option.bind_some]
  cases h : okM r c with
  | false => exact ⟨1, [], by simp, by simp, rfl, rfl⟩
  | true =>
    simp only [Bool.not_true, cond_false]
    cases h9 : decide (wr .i64 (r * c) > 9) with
    | true => exact ⟨2, [], by simp, by simp, rfl, rfl⟩
    | false =>
      cases hm : (decide (most ≥ 1) && decide (most ≤ 200)) with
      | false => exact ⟨2, [], by simp, by simp, rfl, rfl⟩
      | true =>
        simp only [Bool.and_eq_true, decide_eq_true_eq] at hm
        obtain ⟨m1, m2⟩ := hm
        unfold okM at h
        simp only [Bool.and_eq_true, decide_eq_true_eq] at h
        obtain ⟨⟨r1, r2⟩, ⟨c1, c2⟩, _⟩ := h
        have h9 := of_decide_eq_false h9
        obtain ⟨r, rfl⟩ : ∃ q : Nat, r = (q : Int) := ⟨r.toNat, by omega⟩
        obtain ⟨c, rfl⟩ : ∃ q : Nat, c = (q : Int) := ⟨c.toNat, by omega⟩
        have hb : r * c ≤ 12 * 12 := Nat.mul_le_mul (by omega) (by omega)
        rw [← Int.natCast_mul, wr_id (by omega) (by omega)] at h9
        obtain ⟨M, F, K⟩ := known (r := r) (c := c) (by omega) (by omega) (by omega)
        obtain ⟨b0, b1, b2, b3, b4, M0, M1, M2, M3, M4, e1, e2, e3, e4, em⟩ := K.im
        have hs := search_ev (most := most) K.syms K.tab K.nn K.n9 (by omega) (r * c) [] ⟨[], [], [], []⟩ (0, []) 300 (by simp) (by have := K.n9; omega) (Inv.zero M) (by rintro ⟨_, h⟩; simp only at h; omega)
        obtain ⟨q1, q2, q3, q4, hw⟩ := walkS (M0 := M0) (b0 := b0) (b1 := b1) (b2 := b2) (b3 := b3) (b4 := b4) (o0 := []) K.syms e1 e2 e3 e4 K.n9 m2 (r * c) [] ⟨[], [], [], []⟩ [] 300 (by simp) (by have := K.n9; omega) (Inv.zero M) (by simp; omega)
        have em' : same2 (r : Int) (c : Int) most := same2_all (by omega) (by omega) (by omega) most
        unfold same2 at em'
        rw [em, Option.bind_some] at em'
        refine ⟨0, (stk M (r * c) (r * c) [] ⟨[], [], [], []⟩).foldl (visO most) [], ?_, ?_, ?_, ?_⟩
        · have := visO_len (most := most) (L := stk M (r * c) (r * c) [] ⟨[], [], [], []⟩) (out := []) (by simp; omega)
          omega
        · intro x hx
          rcases visO_mem hx with h | h
          · cases h
          · have := stk_len h; simp at this; have := K.n9; omega
        · unfold f13
          rw [K.sm]
          simp only [cond_false, cond_true, Bool.not_true, Option.bind_some]
          have hs' : f26 300 ([([] : List Int), ([] : List Int), ([] : List Int), ([] : List Int)]) ([] : List Int) (r : Int) (c : Int) most 0 F ([] : List (List Int)) = _ := hs
          have hv := visS (most := most) (by omega) m2 (stk M (r * c) (r * c) [] ⟨[], [], [], []⟩) [] (by simp; omega)
          have hv' : (stk M (r * c) (r * c) [] ⟨[], [], [], []⟩).foldl (vis most) (0, []) = _ := hv
          rw [hs', hv']
          rfl
        · rw [em']
          simp only [cond_false, cond_true, Bool.not_true, Option.bind_some, bne_self_int]
          rw [hw]
          rfl

theorem stacks_law (r c most : Int) : f4 300 r c most = some ((true, ()), ()) := by
  obtain ⟨e, F, f1, f2, h1, h2⟩ := stacks_eq r c most
  have ht := tot_le f2
  have he := eq_intss (k := 300) F (by omega) (by omega) (fun x hx => by have := f2 x hx; exact ⟨by omega, by omega⟩)
  have hm := mark_intss (k := 300) F (by omega) (by omega) (fun x hx => by have := f2 x hx; exact ⟨by omega, by omega⟩) (by omega)
  have hh := held_intss (k := 300) F (by omega) (by omega) (fun x hx => by have := f2 x hx; exact ⟨by omega, by omega⟩) (by omega)
  unfold f4
  simp only [h1, h2, Option.bind_some, he, Bool.not_true, cond_false, bne_self_int, hm, hh]
  rw [show decide ((1 : Int) + (tot F : Int) < 0) = false from dnlt (by omega)]
  rfl
end Go.Proofs.Ytplcjfnobdlkeaa.R
