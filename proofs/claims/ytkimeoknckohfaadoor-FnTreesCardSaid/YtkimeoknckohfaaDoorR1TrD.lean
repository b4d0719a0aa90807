/- Trees: the trees that a law draws are valid. -/
import Derived.Test.YtkimeoknckohfaaDoorR1TrC
namespace Go.Proofs.YtkimeoknckohfaaDoor.R
open Go.Proofs.YtkimeoknckohfaaDoor.R1

/-! ### The source -/
def lc (s : Int) : Int := s * 6364136223846793005 + 1442695040888963407
def lcg (s : Int) : Int := lc s % 18446744073709551616
def nb (code : List Int) (p : Nat) (s : Int) : Int × Int := match code[p]? with
  | some x => (x, (lc s + x) % 18446744073709551616)
  | none => (lcg s / 1099511627776 % 256, lcg s)

def U64 (s : Int) : Prop := 0 ≤ s ∧ s < 18446744073709551616
def Bytes (code : List Int) : Prop := ∀ x ∈ code, 0 ≤ x ∧ x ≤ 255

theorem nb_ok {code : List Int} (hc : Bytes code) (p : Nat) (s : Int) : 0 ≤ (nb code p s).1 ∧ (nb code p s).1 ≤ 255 ∧ U64 (nb code p s).2 := by
  unfold nb U64 lcg
  cases h : code[p]? with
  | some x =>
    have := hc x (List.mem_of_getElem? h)
    refine ⟨this.1, this.2, ?_⟩
    simp only
    omega
  | none => simp only; omega

theorem wu (x : Int) : wr .u64 x = x % 18446744073709551616 := by simp [wr, IntKind.wrap, IntKind.bits, IntKind.signed]

theorem iand_255 (x : Int) (h0 : 0 ≤ x) (h1 : x < 18446744073709551616) : iand .u64 x 255 = x % 256 := by
  obtain ⟨n, rfl⟩ : ∃ n : Nat, x = (n : Int) := ⟨x.toNat, by omega⟩
  have e1 : (BitVec.ofInt 64 (n : Int)).toNat = n := by rw [BitVec.toNat_ofInt]; omega
  have e2 : (BitVec.ofInt 64 (255 : Int)).toNat = 2 ^ 8 - 1 := rfl
  have e3 : (BitVec.ofInt IntKind.u64.bits (n : Int) &&& BitVec.ofInt IntKind.u64.bits 255).toNat = n % 256 := by
    show (BitVec.ofInt 64 (n : Int) &&& BitVec.ofInt 64 255).toNat = n % 256
    rw [BitVec.toNat_and, e1, e2, Nat.and_two_pow_sub_one_eq_mod]
  have e4 : iand .u64 (n : Int) 255 = wr .u64 ((n % 256 : Nat) : Int) := by unfold iand; rw [e3]; rfl
  rw [e4, wu]; omega

theorem ishr_40 (x : Int) : ishr .u64 x 40 = x / 1099511627776 := by
  show x.fdiv (2 ^ 40) = _
  rw [Int.fdiv_eq_ediv_of_nonneg _ (by decide)]; rfl

theorem next_eq {k : Nat} {code : List Int} (hc : Bytes code) (hl : code.length ≤ 1048576) {p : Nat} (hp : p < 2305843009213693952) {s : Int} (hs : U64 s) :
    f36 k code (p : Int) s = some (((nb code p s).1, ()), ((code, ((p + 1 : Nat) : Int), (nb code p s).2, ()), ())) := by
  obtain ⟨s0, s1⟩ := hs
  unfold f36 nb lcg
  have hw := wr_succ (show p < 4611686018427387904 by omega)
  cases h : code[p]? with
  | some x =>
    obtain ⟨x0, x1⟩ := hc x (List.mem_of_getElem? h)
    have hlt : p < code.length := by
      rcases Nat.lt_or_ge p code.length with q | q
      · exact q
      · rw [List.getElem?_eq_none q] at h; cases h
    rw [show decide ((p : Int) < (code.length : Int)) = true from dlt (by omega)]
    simp only [cond_true, getI_nat, h, Option.bind_some, f36_j4, hw, wr_id (show -4611686018427387904 ≤ x by omega) (by omega)]
    rw [show decide (((p + 1 : Nat) : Int) ≤ (code.length : Int)) = true from dle (by omega)]
    simp only [cond_true, wu]
    rw [show ((s * 6364136223846793005 % 18446744073709551616 + x % 18446744073709551616) % 18446744073709551616 + 1442695040888963407) % 18446744073709551616 = (lc s + x) % 18446744073709551616 by unfold lc; omega]
  | none =>
    have hge : code.length ≤ p := List.getElem?_eq_none_iff.1 h
    rw [show decide ((p : Int) < (code.length : Int)) = false from dnlt (by omega)]
    simp only [cond_false, f36_j4, hw]
    rw [show decide (((p + 1 : Nat) : Int) ≤ (code.length : Int)) = false from dnle (by omega)]
    have e : wr .u64 (wr .u64 (wr .u64 (s * 6364136223846793005) + wr .u64 0) + 1442695040888963407) = lc s % 18446744073709551616 := by
      simp only [wu]; unfold lc; omega
    simp only [cond_false, e]
    rw [ishr_40, iand_255 _ (by omega) (by omega), wr_id (by omega) (by omega)]

theorem pick_eq {k : Nat} {code : List Int} (hc : Bytes code) (hl : code.length ≤ 1048576) {p : Nat} (hp : p < 2305843009213693952) {s : Int} (hs : U64 s) {n : Int} (h1 : 1 < n) (h2 : n ≤ 200) :
    f26 k n code (p : Int) s = some (((nb code p s).1 % n, ()), ((code, ((p + 1 : Nat) : Int), (nb code p s).2, ()), ())) := by
  unfold f26
  rw [show decide (n ≤ 1) = false from dnle h1, next_eq hc hl hp hs]
  simp only [cond_false, Option.bind_some]
  rw [show decide (n > 200) = false from decide_eq_false (by omega), show decide (n = 0) = false from decide_eq_false (by omega)]
  simp only [cond_false]
  rw [Int.tmod_eq_emod_of_nonneg (nb_ok hc p s).1]

theorem pick_any {k : Nat} {code : List Int} (hc : Bytes code) (hl : code.length ≤ 1048576) {p : Nat} (hp : p < 2305843009213693952) {s : Int} (hs : U64 s) {n : Int} (h1 : 1 ≤ n) (h2 : n ≤ 200) :
    ∃ (x : Int) (p' : Nat) (s' : Int), 0 ≤ x ∧ x < n ∧ p' ≤ p + 1 ∧ U64 s' ∧ ∀ k, f26 k n code (p : Int) s = some ((x, ()), ((code, (p' : Int), s', ()), ())) := by
  by_cases h : n = 1
  · subst h
    exact ⟨0, p, s, by omega, by omega, by omega, hs, fun _ => rfl⟩
  · have := nb_ok hc p s
    exact ⟨(nb code p s).1 % n, p + 1, (nb code p s).2, Int.emod_nonneg _ (by omega), Int.emod_lt_of_pos _ (by omega), Nat.le_refl _, this.2.2, fun _ => pick_eq hc hl hp hs (by omega) h2⟩

/-! ### An edge is put to its place -/
theorem less_ev (k : Nat) (a b : S71) : f37 k a.1 a.2.1 a.2.2 b.1 b.2.1 b.2.2 = some ((ltE a b, ()), ()) := by
  unfold f37 ltE
  by_cases h : a.1 < b.1
  · rw [dlt h, cond_true]; rfl
  · rw [dnlt (by omega), cond_false]
    by_cases q : a.1 = b.1
    · rw [show (a.1 == b.1) = true by simpa using q, cond_true, decide_eq_true q]; rfl
    · rw [show (a.1 == b.1) = false by simpa using q, cond_false, decide_eq_false q]; rfl

theorem put_loop {ρ : Type} (k : Nat) (L : List S71) (hl : L.length ≤ 1000) (e : S71) (nx) : ∀ (i : Nat), i ≤ L.length → (∀ j (hj : j < L.length), i ≤ j → ltE e L[j] = true) → ∀ (m : Nat), i < m →
    ∃ p, p ≤ L.length ∧ (∀ j (hj : j < L.length), j + 1 = p → ltE e L[j] = false) ∧ (∀ j (hj : j < L.length), p ≤ j → ltE e L[j] = true) ∧ f27_l2 (ρ := ρ) k m L (i : Int) e.1 e.2.1 e.2.2 nx = nx.1 ((L, (), (p : Int), ()), ((e.1, e.2.1, e.2.2, ()), ()))
  | 0, hi, h, m, hm => by
    obtain ⟨m, rfl⟩ : ∃ q, m = q + 1 := ⟨m - 1, by omega⟩
    refine ⟨0, hi, fun j hj q => by omega, h, ?_⟩
    simp only [f27_l2]
    rw [decide_eq_false (by omega), cond_false]
  | i + 1, hi, h, m, hm => by
    obtain ⟨m, rfl⟩ : ∃ q, m = q + 1 := ⟨m - 1, by omega⟩
    have hg : getI L (i : Int) = some L[i] := by rw [getI_nat, List.getElem?_eq_getElem (by omega)]
    have hw : wr .i64 (((i + 1 : Nat) : Int) - 1) = (i : Int) := by rw [wr_id (by omega) (by omega)]; omega
    cases q : ltE e L[i] with
    | true =>
      obtain ⟨p, h1, h2, h3, h4⟩ := put_loop (ρ := ρ) k L hl e nx i (by omega) (fun j hj g => by
        by_cases c : j = i
        · subst c; exact q
        · exact h j hj (by omega)) m (by omega)
      refine ⟨p, h1, h2, h3, ?_⟩
      simp only [f27_l2, hw, hg, Option.bind_some, less_ev, q, cond_true]
      rw [decide_eq_true (by omega), cond_true]
      exact h4
    | false =>
      refine ⟨i + 1, hi, fun j hj c => ?_, h, ?_⟩
      · have : j = i := by omega
        subst this; exact q
      simp only [f27_l2, hw, hg, Option.bind_some, less_ev, q, cond_false]
      rw [decide_eq_true (by omega), cond_true]

theorem put_ev (L : List S71) (hl : L.length ≤ 1000) (h : Sorted L) (e : S71) (hne : ∀ x ∈ L, x.f1 ≠ e.f1) : ∃ M, (∀ k, 1100 ≤ k → f27 k L e.1 e.2.1 e.2.2 = some (((), ()), (M, ()))) ∧ Sorted M ∧ M.length = L.length + 1 ∧ ∀ x, x ∈ M ↔ x = e ∨ x ∈ L := by
  obtain ⟨p, h1, h2, h3, _⟩ := put_loop (ρ := Unit) 0 L hl e (fun _ => none, ()) L.length (Nat.le_refl _) (fun j hj g => by omega) (L.length + 1) (by omega)
  refine ⟨L.take p ++ [e] ++ L.drop p, fun k hk => ?_, put_sorted h e hne p h1 h2 h3, ?_, fun x => ?_⟩
  · obtain ⟨p', g1, g2, g3, g4⟩ := put_loop (ρ := (Unit × Unit) × ((List (Int × (Int × Int))) × Unit)) k L hl e (fun x14 : (((List (Int × (Int × Int))) × Unit × Int × Unit) × ((Int × Int × Int × Unit) × Unit)) =>
      bif decide (0 ≤ 0) && decide (0 ≤ x14.1.2.2.1) && decide (x14.1.2.2.1 ≤ (x14.1.1.length : Int)) then
        bif decide ((([] : List (Int × (Int × Int))).length + (sub x14.1.1 0 x14.1.2.2.1).length) * 24 ≤ roomy) then
          let x15 : (List (Int × (Int × Int))) := (([] : List (Int × (Int × Int))) ++ (sub x14.1.1 0 x14.1.2.2.1))
          bif decide ((x15.length + [(x14.2.1.1, (x14.2.1.2.1, x14.2.1.2.2.1))].length) * 24 ≤ roomy) then
            let x16 : (List (Int × (Int × Int))) := (x15 ++ [(x14.2.1.1, (x14.2.1.2.1, x14.2.1.2.2.1))])
            bif decide (0 ≤ x14.1.2.2.1) && decide (x14.1.2.2.1 ≤ (x14.1.1.length : Int)) && decide ((x14.1.1.length : Int) ≤ (x14.1.1.length : Int)) then
              let x17 : (List (Int × (Int × Int))) := (sub x14.1.1 x14.1.2.2.1 (x14.1.1.length : Int))
              bif decide ((x16.length + x17.length) * 24 ≤ roomy) then
                some (((), ()), ((x16 ++ x17), ()))
              else
                none
            else
              none
          else
            none
        else
          none
      else
        none, ()) L.length (Nat.le_refl _) (fun j hj g => by omega) k (by omega)
    have hp : p' = p := by
      rcases Nat.lt_trichotomy p p' with q | q | q
      · have a := h3 (p' - 1) (by omega) (by omega)
        have b := g2 (p' - 1) (by omega) (by omega)
        rw [a] at b; cases b
      · exact q.symm
      · have a := g3 (p - 1) (by omega) (by omega)
        have b := h2 (p - 1) (by omega) (by omega)
        rw [a] at b; cases b
    subst hp
    unfold f27
    rw [g4]
    simp only []
    have s1 : sub L 0 (p' : Int) = L.take p' := rfl
    have s2 : sub L (p' : Int) (L.length : Int) = L.drop p' := by unfold sub; rw [Int.toNat_natCast, Int.toNat_natCast, List.take_length]
    rw [s1, s2]
    rw [show (decide ((0 : Nat) ≤ 0) && decide (0 ≤ (p' : Int)) && decide ((p' : Int) ≤ (L.length : Int))) = true by rw [dle (show (0 : Int) ≤ (p' : Int) by omega), dle (show (p' : Int) ≤ (L.length : Int) by omega)]; rfl, cond_true]
    rw [show decide ((([] : List S71).length + (L.take p').length) * 24 ≤ roomy) = true from decide_eq_true (by simp only [List.length_nil, List.length_take, roomy]; omega), cond_true]
    rw [show decide ((([] ++ L.take p' : List S71).length + [(e.1, (e.2.1, e.2.2))].length) * 24 ≤ roomy) = true from decide_eq_true (by simp only [List.nil_append, List.length_cons, List.length_nil, List.length_take, roomy]; omega), cond_true]
    rw [show (decide (0 ≤ (p' : Int)) && decide ((p' : Int) ≤ (L.length : Int)) && decide ((L.length : Int) ≤ (L.length : Int))) = true by rw [dle (by omega), dle (by omega), dle (Int.le_refl _)]; rfl, cond_true]
    rw [show decide ((([] ++ L.take p' ++ [(e.1, (e.2.1, e.2.2))] : List S71).length + (L.drop p').length) * 24 ≤ roomy) = true from decide_eq_true (by simp only [List.nil_append, List.length_append, List.length_cons, List.length_nil, List.length_take, List.length_drop, roomy]; omega), cond_true]
    rfl
  · simp; omega
  · have : x ∈ L ↔ x ∈ L.take p ∨ x ∈ L.drop p := by rw [← List.mem_append, List.take_append_drop]
    rw [this]
    simp only [List.mem_append, List.mem_singleton]
    constructor
    · rintro ((h | h) | h)
      · exact .inr (.inl h)
      · exact .inl h
      · exact .inr (.inr h)
    · rintro (h | h | h)
      · exact .inl (.inr h)
      · exact .inl (.inl h)
      · exact .inr h

/-! ### A tree is drawn -/
theorem draw_loop (s : List Int) (hs : Bytes s) (hl : s.length ≤ 1048576) (n : Nat) (hn : n ≤ 16) (q : Int) (q0 : 1 ≤ q) (q1 : q ≤ 20) (z : Int) : ∀ (d i : Nat) (L : List S71) (p : Nat) (g : Int), i + d = n → 1 ≤ i → Grown i L → p + 2 * d ≤ 1000 → U64 g →
    ∃ M, Grown n M ∧ ∀ (ρ : Type) (k : Nat), 1100 ≤ k → ∀ (m : Nat), d < m → ∀ nx, ∃ a g', f14_l3 (ρ := ρ) k m q (i : Int) s (p : Int) g z (n : Int) L nx = nx.1 (((), (), ()), ((s, a, g', ()), (z, (), ()), ((n : Int), (), ()), M, ()))
  | 0, i, L, p, g, hi, h1, h, hp, hg => by
    have e : i = n := by omega
    subst e
    refine ⟨L, h, fun ρ k hk m hm nx => ⟨(p : Int), g, ?_⟩⟩
    obtain ⟨m, rfl⟩ : ∃ q, m = q + 1 := ⟨m - 1, by omega⟩
    simp only [f14_l3]
    rw [dnlt (by omega), cond_false]
  | d + 1, i, L, p, g, hi, h1, h, hp, hg => by
    obtain ⟨r, p1, g1, r0, r1, b0, u1, e1⟩ := pick_any (k := 0) hs hl (show p < 2305843009213693952 by omega) hg (n := (i : Int)) (by omega) (by omega)
    obtain ⟨t, p2, g2, t0, t1, c0, u2, e2⟩ := pick_any (k := 0) hs hl (show p1 < 2305843009213693952 by omega) u1 (n := q) q0 (by omega)
    obtain ⟨M, m1, m2, m3, m4⟩ := put_ev L (by have := h.len; omega) h.srt (r, ((i : Int), 1 + t)) (fun x hx => by have := (h.ok x hx).2.2.1; simp only [S71.f1] at this ⊢; omega)
    have G : Grown (i + 1) M := by
      refine ⟨by have := h.len; omega, m2, fun x hx => ?_, fun v v0 v1 => ?_, fun x hx y hy e => ?_⟩
      · rcases (m4 x).1 hx with rfl | hx
        · simp only [S71.f0, S71.f1, S71.f2]; omega
        · have := h.ok x hx; omega
      · by_cases q : v = i
        · subst q; exact ⟨_, (m4 _).2 (.inl rfl), rfl⟩
        · obtain ⟨x, hx, e⟩ := h.all v v0 (by omega)
          exact ⟨x, (m4 x).2 (.inr hx), e⟩
      · rcases (m4 x).1 hx with rfl | hx <;> rcases (m4 y).1 hy with rfl | hy
        · rfl
        · have := h.ok y hy; simp only [S71.f1, S71.f0] at e this; omega
        · have := h.ok x hx; simp only [S71.f1, S71.f0] at e this; omega
        · exact h.one x hx y hy e
    obtain ⟨M', i1, i2⟩ := draw_loop s hs hl n hn q q0 q1 z d (i + 1) M p2 g2 (by omega) (by omega) G (by omega) u2
    refine ⟨M', i1, fun ρ k hk m hm nx => ?_⟩
    obtain ⟨m, rfl⟩ : ∃ q, m = q + 1 := ⟨m - 1, by omega⟩
    obtain ⟨a, g', h3⟩ := i2 ρ k hk m (by omega) nx
    refine ⟨a, g', ?_⟩
    have hput := m1 k hk
    simp only at hput
    simp only [f14_l3]
    rw [dlt (by omega), cond_true, e1, Option.bind_some, e2, Option.bind_some]
    simp only [wr_id (show -4611686018427387904 ≤ 1 + t by omega) (by omega), hput, Option.bind_some, wr_succ (show i < 4611686018427387904 by omega)]
    exact h3

theorem a2draw (s : List Int) (hs : Bytes s) (hl : s.length ≤ 1048576) (m : Int) (m0 : 2 ≤ m) (m1 : m ≤ 16) (q : Int) (q0 : 1 ≤ q) (q1 : q ≤ 20) : ∃ (n : Nat) (L : List S71), 2 ≤ n ∧ (n : Int) ≤ m ∧ L.length ≤ 16 ∧ vT (n : Int) L = true ∧ Grown n L ∧ ∀ k, 1100 ≤ k → f5 k s m q = some ((((n : Int), (), ()), ()), (L, ())) := by
  obtain ⟨r, p, g, r0, r1, b0, u0, e⟩ := pick_any (k := 0) hs hl (p := 0) (by omega) (s := 0) ⟨by omega, by omega⟩ (n := m - 1) (by omega) (by omega)
  obtain ⟨M, h2, h1⟩ := draw_loop s hs hl (2 + r).toNat (by omega) q q0 q1 0 ((2 + r).toNat - 1) 1 [] p g (by omega) (by omega) ⟨rfl, List.Pairwise.nil, fun x hx => (by cases hx), fun v v0 v1 => by omega, fun x hx => (by cases hx)⟩ (by omega) u0
  refine ⟨(2 + r).toNat, M, by omega, by omega, by have := h2.len; omega, grown_valid _ (by omega) (by omega) M h2, h2, fun k hk => ?_⟩
  unfold f5 f15 f14
  simp only [Option.bind_some]
  rw [wr_id (by omega) (by omega)]
  have e' := e k
  rw [show ((0 : Nat) : Int) = 0 from rfl] at e'
  rw [e', Option.bind_some]
  have hw : wr .i64 (2 + r) = (((2 + r).toNat : Nat) : Int) := by rw [wr_id (by omega) (by omega)]; omega
  simp only [hw]
  obtain ⟨a, g', h3⟩ := h1 _ k hk k (by omega) (fun x25 : ((Unit × Unit × Unit) × (((List Int) × Int × Int × Unit) × (Int × Unit × Unit) × (Int × Unit × Unit) × (List (Int × (Int × Int))) × Unit)) => some (((x25.2.2.2.1.1, (), ()), ()), ((x25.2.1.1, x25.2.1.2.1, x25.2.1.2.2.1, ()), x25.2.2.2.2.1, ())), ())
  rw [show ((1 : Nat) : Int) = 1 from rfl] at h3
  rw [h3]
  rfl
end Go.Proofs.YtkimeoknckohfaaDoor.R
