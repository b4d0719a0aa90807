/- The draws of rules: they end, and the rules are valid. -/
import Derived.Test.YtiilgicmdnllbaaR1SvA
namespace Go.Proofs.Ytiilgicmdnllbaa.R
open Go.Proofs.Ytiilgicmdnllbaa.R1

/-! ### The sequence behind the end reaches each byte -/
def lc (x : Int) : Int := x * 6364136223846793005 + 1442695040888963407

def it : Nat → Int → Int
  | 0, x => x
  | t + 1, x => it t (lc x)

theorem it_add : ∀ (s t : Nat) (x : Int), it (s + t) x = it t (it s x)
  | 0, t, x => by rw [Nat.zero_add]; rfl
  | s + 1, t, x => by rw [Nat.add_right_comm]; exact it_add s t (lc x)

theorem double (m : Nat) : ∃ p q : Int, ∀ x, it (2 ^ m) x = x + (2 ^ m : Nat) * (1 + 2 * q + 4 * p * x) := by
  induction m with
  | zero => exact ⟨1591034055961698251, 721347520444481703, fun x => by simp only [it, lc, Nat.pow_zero]; omega⟩
  | succ m ih =>
    obtain ⟨p, q, h⟩ := ih
    refine ⟨p + 2 * p * p * (2 ^ m : Nat), q + p * (2 ^ m : Nat) * (1 + 2 * q), fun x => ?_⟩
    rw [show 2 ^ (m + 1) = 2 ^ m + 2 ^ m by rw [Nat.pow_succ]; omega, it_add, h, h]
    rw [Int.natCast_add]
    generalize ((2 ^ m : Nat) : Int) = N
    grind

theorem reach_all : ∀ (m : Nat) (x y : Int), ∃ t, t < 2 ^ m ∧ ∃ d : Int, it t x - y = (2 ^ m : Nat) * d
  | 0, x, y => ⟨0, by decide, x - y, by simp [it]⟩
  | m + 1, x, y => by
    obtain ⟨t, h1, d, h2⟩ := reach_all m x y
    have hp : 2 ^ (m + 1) = 2 ^ m + 2 ^ m := by rw [Nat.pow_succ]; omega
    rcases Int.emod_two_eq d with h | h
    · refine ⟨t, by omega, d / 2, ?_⟩
      rw [h2, hp, Int.natCast_add]
      generalize ((2 ^ m : Nat) : Int) = N
      rw [← Int.two_mul, Int.mul_right_comm, Int.mul_comm, show 2 * (d / 2) = d by omega]
    · obtain ⟨p, q, hd⟩ := double m
      refine ⟨t + 2 ^ m, by omega, (d + 1) / 2 + q + 2 * p * it t x, ?_⟩
      rw [it_add, hd, hp, Int.natCast_add]
      have h3 : it t x = y + (2 ^ m : Nat) * d := by omega
      obtain ⟨e, rfl⟩ : ∃ e, d = 2 * e + 1 := ⟨d / 2, by omega⟩
      rw [show (2 * e + 1 + 1) / 2 = e + 1 by omega]
      generalize ((2 ^ m : Nat) : Int) = N at *
      generalize it t x = z at *
      grind

def lcg (s : Int) : Int := lc s % 18446744073709551616

def lit : Nat → Int → Int
  | 0, s => s
  | t + 1, s => lit t (lcg s)

theorem lit_it : ∀ (t : Nat) (s : Int), lit t (s % 18446744073709551616) = it t s % 18446744073709551616
  | 0, s => rfl
  | t + 1, s => by
    show lit t (lc (s % 18446744073709551616) % 18446744073709551616) = it t (lc s) % 18446744073709551616
    rw [show lc (s % 18446744073709551616) % 18446744073709551616 = lc s % 18446744073709551616 by unfold lc; omega]
    exact lit_it t (lc s)

theorem byte_at (s : Int) (h0 : 0 ≤ s) (h1 : s < 18446744073709551616) (r : Int) (r0 : 0 ≤ r) (r1 : r < 256) : ∃ t : Nat, t < 281474976710656 ∧ lit t s / 1099511627776 % 256 = r := by
  obtain ⟨t, ht, d, hd⟩ := reach_all 48 s (r * 1099511627776)
  refine ⟨t, by simpa using ht, ?_⟩
  have := lit_it t s
  rw [show s % 18446744073709551616 = s by omega] at this
  rw [this]
  rw [show ((2 ^ 48 : Nat) : Int) = 281474976710656 from rfl] at hd
  omega

/-! ### The source -/
def nb (code : List Int) (p : Nat) (s : Int) : Int × Int := match code[p]? with
  | some x => (x, (lc s + x) % 18446744073709551616)
  | none => (lcg s / 1099511627776 % 256, lcg s)

def St (s : Int) : Prop := 0 ≤ s ∧ s < 18446744073709551616
def Bytes (code : List Int) : Prop := ∀ x ∈ code, 0 ≤ x ∧ x ≤ 255

theorem nb_ok {code : List Int} (hc : Bytes code) (p : Nat) (s : Int) : 0 ≤ (nb code p s).1 ∧ (nb code p s).1 ≤ 255 ∧ St (nb code p s).2 := by
  unfold nb St lcg
  cases h : code[p]? with
  | some x =>
    have := hc x (List.mem_of_getElem? h)
    refine ⟨this.1, this.2, ?_⟩
    simp only
    omega
  | none => simp only; omega

theorem wu (x : Int) : wr .u64 x = x % 18446744073709551616 := by simp [wr, IntKind.wrap, IntKind.bits, IntKind.signed]

theorem iand_255 (x : Int) (h0 : 0 ≤ x) (h1 : x < 18446744073709551616) : iand .u64 x 255 = x % 256 := by
  obtain ⟨n, rfl⟩ : ∃ n : Nat, x = (n : Int) := ⟨x.toNat, by omega⟩
  have e1 : (BitVec.ofInt 64 (n : Int)).toNat = n := by rw [BitVec.toNat_ofInt]; omega
  have e2 : (BitVec.ofInt 64 (255 : Int)).toNat = 2 ^ 8 - 1 := rfl
  have e3 : (BitVec.ofInt IntKind.u64.bits (n : Int) &&& BitVec.ofInt IntKind.u64.bits 255).toNat = n % 256 := by
    show (BitVec.ofInt 64 (n : Int) &&& BitVec.ofInt 64 255).toNat = n % 256
    rw [BitVec.toNat_and, e1, e2, Nat.and_two_pow_sub_one_eq_mod]
  have e4 : iand .u64 (n : Int) 255 = wr .u64 ((n % 256 : Nat) : Int) := by unfold iand; rw [e3]; rfl
  rw [e4, wu]; omega

theorem ishr_40 (x : Int) : ishr .u64 x 40 = x / 1099511627776 := by
  show x.fdiv (2 ^ 40) = _
  rw [Int.fdiv_eq_ediv_of_nonneg _ (by decide)]; rfl

theorem next_eq {k : Nat} {code : List Int} (hc : Bytes code) (hl : code.length ≤ 1048576) {p : Nat} (hp : p < 2305843009213693952) {s : Int} (hs : St s) :
    f66 k code (p : Int) s = some (((nb code p s).1, ()), ((code, ((p + 1 : Nat) : Int), (nb code p s).2, ()), ())) := by
  obtain ⟨s0, s1⟩ := hs
  unfold f66 nb lcg
  have hw := wr_succ (show p < 4611686018427387904 by omega)
  cases h : code[p]? with
  | some x =>
    obtain ⟨x0, x1⟩ := hc x (List.mem_of_getElem? h)
    have hlt : p < code.length := by
      rcases Nat.lt_or_ge p code.length with q | q
      · exact q
      · rw [List.getElem?_eq_none q] at h; cases h
    rw [show decide ((p : Int) < (code.length : Int)) = true from dlt (by omega)]
    simp only [cond_true, getI_nat, h, Option.bind_some, f66_j4, hw, wr_id (show -4611686018427387904 ≤ x by omega) (by omega)]
    rw [show decide (((p + 1 : Nat) : Int) ≤ (code.length : Int)) = true from dle (by omega)]
    simp only [cond_true, wu]
    rw [show ((s * 6364136223846793005 % 18446744073709551616 + x % 18446744073709551616) % 18446744073709551616 + 1442695040888963407) % 18446744073709551616 = (lc s + x) % 18446744073709551616 by unfold lc; omega]
  | none =>
    have hge : code.length ≤ p := List.getElem?_eq_none_iff.1 h
    rw [show decide ((p : Int) < (code.length : Int)) = false from dnlt (by omega)]
    simp only [cond_false, f66_j4, hw]
    rw [show decide (((p + 1 : Nat) : Int) ≤ (code.length : Int)) = false from dnle (by omega)]
    have e : wr .u64 (wr .u64 (wr .u64 (s * 6364136223846793005) + wr .u64 0) + 1442695040888963407) = lc s % 18446744073709551616 := by
      simp only [wu]; unfold lc; omega
    simp only [cond_false, e]
    rw [ishr_40, iand_255 _ (by omega) (by omega), wr_id (by omega) (by omega)]

theorem pick_eq {k : Nat} {code : List Int} (hc : Bytes code) (hl : code.length ≤ 1048576) {p : Nat} (hp : p < 2305843009213693952) {s : Int} (hs : St s) {n : Int} (h1 : 1 < n) (h2 : n ≤ 200) :
    f37 k n code (p : Int) s = some (((nb code p s).1 % n, ()), ((code, ((p + 1 : Nat) : Int), (nb code p s).2, ()), ())) := by
  unfold f37
  rw [show decide (n ≤ 1) = false from dnle h1, next_eq hc hl hp hs]
  simp only [cond_false, Option.bind_some]
  rw [show decide (n > 200) = false from decide_eq_false (by omega), show decide (n = 0) = false from decide_eq_false (by omega)]
  simp only [cond_false]
  rw [Int.tmod_eq_emod_of_nonneg (nb_ok hc p s).1]

theorem pick_any {k : Nat} {code : List Int} (hc : Bytes code) (hl : code.length ≤ 1048576) {p : Nat} (hp : p < 2305843009213693952) {s : Int} (hs : St s) {n : Int} (h1 : 1 ≤ n) (h2 : n ≤ 200) :
    ∃ (x : Int) (p' : Nat) (s' : Int), 0 ≤ x ∧ x < n ∧ p' ≤ p + 1 ∧ St s' ∧ f37 k n code (p : Int) s = some ((x, ()), ((code, (p' : Int), s', ()), ())) := by
  by_cases h : n = 1
  · subst h
    exact ⟨0, p, s, by omega, by omega, by omega, hs, rfl⟩
  · have := nb_ok hc p s
    exact ⟨(nb code p s).1 % n, p + 1, (nb code p s).2, Int.emod_nonneg _ (by omega), Int.emod_lt_of_pos _ (by omega), Nat.le_refl _, this.2.2, pick_eq hc hl hp hs (by omega) h2⟩

/-- After so many steps comes a byte. -/
def Reach (code : List Int) (r : Int) : Nat → Nat → Int → Prop
  | 0, p, s => (nb code p s).1 = r
  | t + 1, p, s => Reach code r t (p + 1) (nb code p s).2

theorem reach_tail {code : List Int} {r : Int} : ∀ (t p : Nat) (s : Int), code.length ≤ p → lit t (lcg s) / 1099511627776 % 256 = r → Reach code r t p s
  | 0, p, s, hp, h => by
    unfold Reach nb
    rw [List.getElem?_eq_none hp]; exact h
  | t + 1, p, s, hp, h => by
    unfold Reach nb
    rw [List.getElem?_eq_none hp]
    exact reach_tail t (p + 1) (lcg s) (by omega) h

theorem reach {code : List Int} (hc : Bytes code) {r : Int} (r0 : 0 ≤ r) (r1 : r < 256) : ∀ (d p : Nat) (s : Int), St s → code.length ≤ p + d → ∃ t, t < 281474976710656 + d ∧ Reach code r t p s
  | 0, p, s, hs, h => by
    have : St (lcg s) := by unfold St lcg; omega
    obtain ⟨t, h1, h2⟩ := byte_at (lcg s) this.1 this.2 r r0 r1
    exact ⟨t, by omega, reach_tail t p s (by omega) h2⟩
  | d + 1, p, s, hs, h => by
    obtain ⟨t, h1, h2⟩ := reach hc r0 r1 d (p + 1) (nb code p s).2 (nb_ok hc p s).2.2 (by omega)
    exact ⟨t + 1, by omega, h2⟩

/-! ### A number is put to its place -/
def insq : List Int → Int → Bool × List Int
  | [], _ => (false, [])
  | x :: r, n => bif decide (x ≥ n) then (true, bif decide (x > n) then n :: x :: r else x :: r) else ((insq r n).1, x :: (insq r n).2)

def ins (l : List Int) (n : Int) : List Int := bif !(insq l n).1 then (insq l n).2 ++ [n] else (insq l n).2

theorem insq_len : ∀ (l : List Int) (n : Int), (insq l n).2.length ≤ l.length + 1
  | [], n => by simp [insq]
  | x :: r, n => by
    unfold insq
    cases decide (x ≥ n) with
    | true => cases decide (x > n) <;> simp
    | false => have := insq_len r n; simpa using this

theorem ins_cons (x : Int) (r : List Int) (n : Int) : ins (x :: r) n = if n ≤ x then (if n < x then n :: x :: r else x :: r) else x :: ins r n := by
  have e : insq (x :: r) n = bif decide (x ≥ n) then (true, bif decide (x > n) then n :: x :: r else x :: r) else ((insq r n).1, x :: (insq r n).2) := rfl
  unfold ins
  rw [e]
  by_cases h : n ≤ x
  · rw [show decide (x ≥ n) = true from decide_eq_true h, if_pos h]
    by_cases h2 : n < x
    · rw [show decide (x > n) = true from decide_eq_true h2, if_pos h2]; rfl
    · rw [show decide (x > n) = false from decide_eq_false h2, if_neg h2]; rfl
  · rw [show decide (x ≥ n) = false from decide_eq_false h, if_neg h]
    simp only [cond_false]
    cases (insq r n).1 <;> rfl

theorem ins_mem : ∀ {l : List Int} {n x : Int}, x ∈ ins l n ↔ x ∈ l ∨ x = n
  | [], n, x => by simp [ins, insq]
  | y :: r, n, x => by
    rw [ins_cons]
    have ih := ins_mem (l := r) (n := n) (x := x)
    split
    · split
      · simp only [List.mem_cons]; grind
      · have : n = y := by omega
        simp only [List.mem_cons]; grind
    · simp only [List.mem_cons, ih]; grind

theorem ins_rise : ∀ {l : List Int} {n : Int}, l.Pairwise (· < ·) → (ins l n).Pairwise (· < ·)
  | [], n, _ => List.pairwise_singleton _ _
  | y :: r, n, h => by
    rw [ins_cons]
    obtain ⟨h1, h2⟩ := List.pairwise_cons.1 h
    split
    · split
      · refine List.pairwise_cons.2 ⟨fun x hx => ?_, h⟩
        rcases List.mem_cons.1 hx with rfl | hx
        · assumption
        · have := h1 x hx; omega
      · exact h
    · refine List.pairwise_cons.2 ⟨fun x hx => ?_, ins_rise h2⟩
      rcases ins_mem.1 hx with hx | rfl
      · exact h1 x hx
      · omega

theorem ins_old : ∀ {l : List Int} {n : Int}, l.Pairwise (· < ·) → n ∈ l → ins l n = l
  | y :: r, n, h, hn => by
    rw [ins_cons]
    obtain ⟨h1, h2⟩ := List.pairwise_cons.1 h
    rcases List.mem_cons.1 hn with rfl | hn
    · rw [if_pos (Int.le_refl _), if_neg (by omega)]
    · have := h1 n hn
      rw [if_neg (by omega), ins_old h2 hn]

theorem ins_new : ∀ {l : List Int} {n : Int}, n ∉ l → (ins l n).length = l.length + 1
  | [], n, _ => rfl
  | y :: r, n, hn => by
    rw [ins_cons]
    simp only [List.mem_cons, not_or] at hn
    split
    · rw [if_pos (by omega)]; rfl
    · rw [List.length_cons, ins_new hn.2]; rfl

theorem put_loop {ρ : Type} (k : Nat) (l : List Int) (n : Int) (hl : l.length ≤ 1000) (nx) : ∀ (rest : List Int) (i : Nat), l.drop i = rest → ∀ j, rest.length < j → ∀ (dn : Bool) (acc : List Int), acc.length ≤ 2 * i →
    f68_l4 (ρ := ρ) k j l n dn (i : Int) acc nx = bif dn then nx.1 ((n, (), true, ()), (acc ++ rest, ())) else nx.1 ((n, (), (insq rest n).1, ()), (acc ++ (insq rest n).2, ()))
  | [], i, h, j, hj, dn, acc, ha => by
    obtain ⟨j, rfl⟩ : ∃ q, j = q + 1 := ⟨j - 1, by simp at hj; omega⟩
    simp only [f68_l4, out_nil h, cond_false, insq, List.append_nil]
    cases dn <;> rfl
  | x :: rest, i, h, j, hj, dn, acc, ha => by
    obtain ⟨j, rfl⟩ : ∃ q, j = q + 1 := ⟨j - 1, by simp at hj; omega⟩
    have hlt := lt_cons h
    have hw := wr_succ (show i < 4611686018427387904 by omega)
    have room1 : ∀ (a : List Int) (y : Int), a.length ≤ 100000 → decide ((a.length + [y].length) * 8 ≤ roomy) = true := fun a y h => decide_eq_true (by simp only [List.length_singleton, roomy]; omega)
    simp only [f68_l4, in_cons h, cond_true, getI_cons h, Option.bind_some]
    cases dn with
    | true =>
      simp only [Bool.not_true, cond_false, f68_j10, getI_cons h, Option.bind_some, room1 acc x (by omega), cond_true, hw]
      rw [put_loop k l n hl nx rest (i + 1) (next_cons h) j (by simpa using hj) true _ (by rw [List.length_append, List.length_singleton]; omega)]
      simp
    | false =>
      simp only [Bool.not_false, cond_true, cond_false, insq]
      cases decide (x ≥ n) with
      | true =>
        simp only [cond_true]
        cases decide (x > n) with
        | true =>
          simp only [cond_true, f68_j10, getI_cons h, Option.bind_some, room1 acc n (by omega), room1 (acc ++ [n]) x (by rw [List.length_append, List.length_singleton]; omega), hw]
          rw [put_loop k l n hl nx rest (i + 1) (next_cons h) j (by simpa using hj) true _ (by simp only [List.length_append, List.length_singleton]; omega)]
          simp
        | false =>
          simp only [cond_false, cond_true, f68_j10, getI_cons h, Option.bind_some, room1 acc x (by omega), hw]
          rw [put_loop k l n hl nx rest (i + 1) (next_cons h) j (by simpa using hj) true _ (by rw [List.length_append, List.length_singleton]; omega)]
          simp
      | false =>
        simp only [cond_false, cond_true, f68_j10, getI_cons h, Option.bind_some, room1 acc x (by omega), hw]
        rw [put_loop k l n hl nx rest (i + 1) (next_cons h) j (by simpa using hj) false _ (by rw [List.length_append, List.length_singleton]; omega)]
        simp

theorem put_eq {k : Nat} {l : List Int} {n : Int} (hl : l.length ≤ 100) (hk : 1000 ≤ k) : f68 k l n = some (((), ()), (ins l n, ())) := by
  unfold f68
  refine (put_loop k l n (by omega) _ l 0 rfl k (by omega) false [] (by simp)).trans ?_
  have := insq_len l n
  unfold ins
  simp only [cond_false, List.nil_append]
  cases (insq l n).1 with
  | true => rfl
  | false =>
    simp only [Bool.not_false, cond_true]
    rw [show decide (((insq l n).2.length + [n].length) * 8 ≤ roomy) = true from decide_eq_true (by simp only [List.length_singleton, roomy]; omega)]
    rfl

/-! ### Rules -/
structure Vars (v : Nat) (l : List Int) : Prop where
  p : l.Pairwise (· < ·)
  r : ∀ x ∈ l, 0 ≤ x ∧ x < (v : Int)

theorem covers : ∀ {l : List Int} {lo hi : Int}, l.Pairwise (· < ·) → (∀ x, lo ≤ x → x < hi → x ∈ l) → hi - lo ≤ l.length
  | [], lo, hi, _, h => by
    by_cases q : lo < hi
    · have := h lo (Int.le_refl _) q; cases this
    · simp; omega
  | y :: r, lo, hi, hp, h => by
    obtain ⟨h1, h2⟩ := List.pairwise_cons.1 hp
    by_cases q : lo < hi
    · by_cases e : y = lo
      · have := covers (l := r) (lo := lo + 1) (hi := hi) h2 fun x a b => by
          rcases List.mem_cons.1 (h x (by omega) b) with rfl | k
          · omega
          · exact k
        rw [List.length_cons]; omega
      · have hy : y < lo := by
          rcases List.mem_cons.1 (h lo (Int.le_refl _) q) with k | k
          · omega
          · exact h1 lo k
        have := covers (l := r) (lo := lo) (hi := hi) h2 fun x a b => by
          rcases List.mem_cons.1 (h x a b) with rfl | k
          · omega
          · exact k
        rw [List.length_cons]; omega
    · omega

theorem missing {v : Nat} {l : List Int} (h : Vars v l) (hl : l.length < v) : ∃ r, 0 ≤ r ∧ r < (v : Int) ∧ r ∉ l := by
  refine Classical.byContradiction fun q => ?_
  have := covers (lo := 0) (hi := (v : Int)) h.p fun x a b => Classical.byContradiction fun k => q ⟨x, a, b, k⟩
  omega

def DD : Nat := 281474978000000

/-- The loop that draws the variables of a rule. -/
def Ends (k : Nat) (code : List Int) (v kd m : Nat) : Prop := ∀ (l : List Int), Vars v l → l.length + m = kd → ∀ (p : Nat) (s : Int), p + m * DD ≤ 1152921504606846976 → St s →
  ∃ (l' : List Int) (p' : Nat) (s' : Int), Vars v l' ∧ l'.length = kd ∧ p' ≤ p + m * DD ∧ St s' ∧ ∀ {ρ : Type} (j : Nat) (nx), m * DD < j →
    f38_l2 (ρ := ρ) k j (v : Int) code (p : Int) s 0 (kd : Int) l nx = nx.1 (((), (), (), ()), ((code, (p' : Int), s', ()), (0, (), (), ()), ((kd : Int), (), (), ()), l', ()))

theorem vars_step {k : Nat} (hk : 1000 ≤ k) {code : List Int} (hc : Bytes code) (hl : code.length ≤ 1048576) {v kd : Nat} (hv : 2 ≤ v) (hv2 : v ≤ 9) (hk4 : kd ≤ 4) {l : List Int} (h : l.length < kd) {p : Nat} {s : Int} (hp : p ≤ 1152921504606846976) (hs : St s) {ρ : Type} (j : Nat) (nx) :
    f38_l2 (ρ := ρ) k (j + 1) (v : Int) code (p : Int) s 0 (kd : Int) l nx = f38_l2 (ρ := ρ) k j (v : Int) code ((p + 1 : Nat) : Int) (nb code p s).2 0 (kd : Int) (ins l ((nb code p s).1 % (v : Int))) nx := by
  rw [f38_l2]
  rw [show decide ((l.length : Int) < (kd : Int)) = true from dlt (by omega)]
  simp only [cond_true, pick_eq hc hl (show p < 2305843009213693952 by omega) hs (show (1 : Int) < (v : Int) by omega) (by omega), Option.bind_some, put_eq (show l.length ≤ 100 by omega) hk]

theorem vars_more {v : Nat} (hv : 2 ≤ v) {l : List Int} (hV : Vars v l) {y : Int} (y0 : 0 ≤ y) (y1 : y < (v : Int)) : Vars v (ins l y) :=
  ⟨ins_rise hV.p, fun x hx => by
    rcases ins_mem.1 hx with h | rfl
    · exact hV.r x h
    · exact ⟨y0, y1⟩⟩

theorem vars_ends {k : Nat} (hk : 1000 ≤ k) {code : List Int} (hc : Bytes code) (hl : code.length ≤ 1048576) {v kd : Nat} (hv : 2 ≤ v) (hv2 : v ≤ 9) (hkd : kd ≤ v) (hk4 : kd ≤ 4) : ∀ m, Ends k code v kd m
  | 0 => fun l hV hm p s hp hs => ⟨l, p, s, hV, by omega, by omega, hs, fun {ρ} j nx hj => by
    obtain ⟨j, rfl⟩ : ∃ q, j = q + 1 := ⟨j - 1, by omega⟩
    simp only [f38_l2]
    rw [show decide ((l.length : Int) < (kd : Int)) = false from dnlt (by omega)]
    rfl⟩
  | m + 1 => fun l hV hm p s hp hs => by
    have IH := vars_ends hk hc hl hv hv2 hkd hk4 m
    obtain ⟨r, r0, r1, r2⟩ := missing hV (by omega)
    have fresh : ∀ (p : Nat) (s : Int), p + 1 + m * DD ≤ 1152921504606846976 → St s → (nb code p s).1 % (v : Int) ∉ l → ∃ (l' : List Int) (p' : Nat) (s' : Int), Vars v l' ∧ l'.length = kd ∧ p' ≤ p + 1 + m * DD ∧ St s' ∧ ∀ {ρ : Type} (j : Nat) (nx), 1 + m * DD < j →
        f38_l2 (ρ := ρ) k j (v : Int) code (p : Int) s 0 (kd : Int) l nx = nx.1 (((), (), (), ()), ((code, (p' : Int), s', ()), (0, (), (), ()), ((kd : Int), (), (), ()), l', ())) := by
      intro p s hp hs hy
      obtain ⟨l', p', s', a1, a2, a3, a4, a5⟩ := IH (ins l ((nb code p s).1 % (v : Int))) (vars_more hv hV (Int.emod_nonneg _ (by omega)) (Int.emod_lt_of_pos _ (by omega))) (by rw [ins_new hy]; omega) (p + 1) (nb code p s).2 hp (nb_ok hc p s).2.2
      refine ⟨l', p', s', a1, a2, a3, a4, fun {ρ} j nx hj => ?_⟩
      obtain ⟨j, rfl⟩ : ∃ q, j = q + 1 := ⟨j - 1, by omega⟩
      rw [vars_step hk hc hl hv hv2 hk4 (by omega) (by omega) hs]
      exact a5 j nx (by omega)
    have inner : ∀ (t p : Nat) (s : Int), p + (t + 1) + m * DD ≤ 1152921504606846976 → St s → Reach code r t p s → ∃ (l' : List Int) (p' : Nat) (s' : Int), Vars v l' ∧ l'.length = kd ∧ p' ≤ p + (t + 1) + m * DD ∧ St s' ∧ ∀ {ρ : Type} (j : Nat) (nx), t + 1 + m * DD < j →
        f38_l2 (ρ := ρ) k j (v : Int) code (p : Int) s 0 (kd : Int) l nx = nx.1 (((), (), (), ()), ((code, (p' : Int), s', ()), (0, (), (), ()), ((kd : Int), (), (), ()), l', ())) := by
      intro t
      induction t with
      | zero =>
        intro p s hp hs hR
        obtain ⟨l', p', s', a1, a2, a3, a4, a5⟩ := fresh p s (by omega) hs (by
          have e : (nb code p s).1 = r := hR
          rw [e, Int.emod_eq_of_lt r0 r1]; exact r2)
        exact ⟨l', p', s', a1, a2, by omega, a4, fun {ρ} j nx hj => a5 j nx (by omega)⟩
      | succ t ih =>
        intro p s hp hs hR
        by_cases hy : (nb code p s).1 % (v : Int) ∈ l
        · obtain ⟨l', p', s', a1, a2, a3, a4, a5⟩ := ih (p + 1) (nb code p s).2 (by omega) (nb_ok hc p s).2.2 hR
          refine ⟨l', p', s', a1, a2, by omega, a4, fun {ρ} j nx hj => ?_⟩
          obtain ⟨j, rfl⟩ : ∃ q, j = q + 1 := ⟨j - 1, by omega⟩
          rw [vars_step hk hc hl hv hv2 hk4 (by omega) (by omega) hs, ins_old hV.p hy]
          exact a5 j nx (by omega)
        · obtain ⟨l', p', s', a1, a2, a3, a4, a5⟩ := fresh p s (by omega) hs hy
          exact ⟨l', p', s', a1, a2, by omega, a4, fun {ρ} j nx hj => a5 j nx (by omega)⟩
    have e : (m + 1) * DD = 281474978000000 + m * DD := by rw [Nat.add_mul]; unfold DD; omega
    rw [e] at hp ⊢
    obtain ⟨t, t1, t2⟩ := reach hc r0 (by omega) code.length p s hs (by omega)
    obtain ⟨l', p', s', a1, a2, a3, a4, a5⟩ := inner t p s (by omega) hs t2
    exact ⟨l', p', s', a1, a2, by omega, a4, fun {ρ} j nx hj => a5 j nx (by omega)⟩

theorem ris_of {lo hi : Int} : ∀ {l : List Int} {p : Option Int}, l.Pairwise (· < ·) → (∀ x ∈ l, lo ≤ x ∧ x ≤ hi) → (∀ y, p = some y → ∀ x ∈ l, y < x) → ris lo hi p l = true
  | [], _, _, _, _ => rfl
  | x :: r, p, h1, h2, h3 => by
    obtain ⟨q1, q2⟩ := List.pairwise_cons.1 h1
    obtain ⟨b1, b2⟩ := h2 x (List.mem_cons.2 (.inl rfl))
    have ih := ris_of (p := some x) q2 (fun y hy => h2 y (List.mem_cons.2 (.inr hy))) (fun y e z hz => by cases e; exact q1 z hz)
    unfold ris
    rw [dle b1, dle b2, ih]
    cases p with
    | none => rfl
    | some y =>
      show (true && true && (decide (y < x) && true)) = true
      rw [dlt (h3 y rfl x (List.mem_cons.2 (.inl rfl)))]; rfl

theorem signs_loop {k : Nat} {code : List Int} (hc : Bytes code) (hl : code.length ≤ 1048576) (kd : Int) (vs : List Int) (hvs : vs.length ≤ 100) : ∀ (m i : Nat), i + m = vs.length → ∀ (p : Nat) (s : Int) (ss : List Int), p + m ≤ 1252921504606846976 → St s → ss.length = i → (∀ x ∈ ss, x = 1 ∨ x = -1) →
    ∃ (ss' : List Int) (p' : Nat) (s' : Int), ss'.length = vs.length ∧ (∀ x ∈ ss', x = 1 ∨ x = -1) ∧ p' ≤ p + m ∧ St s' ∧ ∀ {ρ : Type} (j : Nat) (nx), m < j →
      f38_l5 (ρ := ρ) k j (i : Int) code (p : Int) s 0 kd vs ss nx = nx.1 (((), (), ()), ((code, (p' : Int), s', ()), (0, (), (), ()), (kd, (), (), ()), vs, ss', ()))
  | 0, i, hi, p, s, ss, hp, hs, h1, h2 => ⟨ss, p, s, by omega, h2, by omega, hs, fun {ρ} j nx hj => by
    obtain ⟨j, rfl⟩ : ∃ q, j = q + 1 := ⟨j - 1, by omega⟩
    simp only [f38_l5]
    rw [show decide ((i : Int) < (vs.length : Int)) = false from dnlt (by omega)]
    rfl⟩
  | m + 1, i, hi, p, s, ss, hp, hs, h1, h2 => by
    obtain ⟨x, p1, s1, x0, x1, b1, b2, b3⟩ := pick_any (k := k) hc hl (p := p) (by omega) hs (n := 2) (by omega) (by omega)
    have hx : wr .i64 (1 - wr .i64 (2 * x)) = 1 ∨ wr .i64 (1 - wr .i64 (2 * x)) = -1 := by
      have : x = 0 ∨ x = 1 := by omega
      rcases this with rfl | rfl
      · exact .inl rfl
      · exact .inr rfl
    obtain ⟨ss', p', s', a1, a2, a3, a4, a5⟩ := signs_loop hc hl kd vs hvs m (i + 1) (by omega) p1 s1 (ss ++ [wr .i64 (1 - wr .i64 (2 * x))]) (by omega) b2 (by rw [List.length_append, List.length_singleton]; omega) (fun y hy => by
      rcases List.mem_append.1 hy with h | h
      · exact h2 y h
      · rw [List.mem_singleton.1 h]; exact hx)
    refine ⟨ss', p', s', a1, a2, by omega, a4, fun {ρ} j nx hj => ?_⟩
    obtain ⟨j, rfl⟩ : ∃ q, j = q + 1 := ⟨j - 1, by omega⟩
    simp only [f38_l5]
    rw [show decide ((i : Int) < (vs.length : Int)) = true from dlt (by omega)]
    simp only [cond_true, b3, Option.bind_some]
    rw [show decide ((ss.length + [wr .i64 (1 - wr .i64 (2 * x))].length) * 8 ≤ roomy) = true from decide_eq_true (by simp only [List.length_singleton, roomy]; omega)]
    simp only [cond_true, wr_succ (show i < 4611686018427387904 by omega)]
    exact a5 j nx (by omega)

/-- Fuel that is enough for all draws. -/
def KK : Nat := 2305843009213693952
/-- What one rule costs at most. -/
def CC : Nat := 1125899912000010

theorem un_of {l : List Int} (h : ∀ x ∈ l, x = 1 ∨ x = -1) : un l = true := by
  unfold un
  rw [List.all_eq_true]
  intro x hx
  rcases h x hx with rfl | rfl <;> rfl

theorem draw_rule {code : List Int} (hc : Bytes code) (hl : code.length ≤ 1048576) {v : Nat} (hv1 : 1 ≤ v) (hv2 : v ≤ 9) {p : Nat} {s : Int} (hp : p + CC ≤ 1152921504606846976) (hs : St s) :
    ∃ (kd : Int) (vs ss : List Int) (p' : Nat) (s' : Int), vr (v : Int) (kd, (vs, ss)) = true ∧ p' ≤ p + CC ∧ St s' ∧ f38 KK (v : Int) code (p : Int) s = some (((kd, (), (), ()), ()), ((code, (p' : Int), s', ()), vs, ss, ())) := by
  have hmin : ∃ mn : Int, 1 ≤ mn ∧ mn ≤ 4 ∧ mn ≤ v ∧ (v = 1 → mn = 1) ∧ f67 KK 4 (v : Int) = some ((mn, ()), ()) := by
    unfold f67
    by_cases h : (4 : Int) < v
    · exact ⟨4, by omega, by omega, by omega, by omega, by rw [dlt h]; rfl⟩
    · exact ⟨v, by omega, by omega, by omega, by omega, by rw [dnlt (by omega)]; rfl⟩
  obtain ⟨mn, m1, m2, m3, m5, m4⟩ := hmin
  obtain ⟨x, p1, s1, x0, x1, b1, b2, b3⟩ := pick_any (k := KK) hc hl (p := p) (by unfold CC at hp; omega) hs (n := mn) m1 (by omega)
  obtain ⟨kd, rfl⟩ : ∃ kd : Nat, x = (kd : Int) - 1 := ⟨(x + 1).toNat, by omega⟩
  have hkd : wr .i64 (1 + ((kd : Int) - 1)) = (kd : Int) := by rw [wr_id (by omega) (by omega)]; omega
  have hvars : ∃ (l' : List Int) (p' : Nat) (s' : Int), Vars v l' ∧ l'.length = kd ∧ p' ≤ p1 + 4 * DD ∧ St s' ∧ ∀ {ρ : Type} (nx), f38_l2 (ρ := ρ) KK KK (v : Int) code (p1 : Int) s1 0 (kd : Int) [] nx = nx.1 (((), (), (), ()), ((code, (p' : Int), s', ()), (0, (), (), ()), ((kd : Int), (), (), ()), l', ())) := by
    by_cases h1 : v = 1
    · subst h1
      have := m5 rfl
      obtain rfl : kd = 1 := by omega
      refine ⟨[0], p1, s1, ⟨List.pairwise_singleton _ _, fun x hx => by rw [List.mem_singleton.1 hx]; omega⟩, rfl, by omega, b2, fun {ρ} nx => ?_⟩
      have e : ∀ j : Nat, f38_l2 (ρ := ρ) KK (j + 2) ((1 : Nat) : Int) code (p1 : Int) s1 0 ((1 : Nat) : Int) [] nx = nx.1 (((), (), (), ()), ((code, (p1 : Int), s1, ()), (0, (), (), ()), (((1 : Nat) : Int), (), (), ()), [0], ())) := by
        intro j
        rw [f38_l2]
        rw [show decide ((([] : List Int).length : Int) < ((1 : Nat) : Int)) = true from rfl]
        have hpick : f37 KK ((1 : Nat) : Int) code (p1 : Int) s1 = some ((0, ()), ((code, (p1 : Int), s1, ()), ())) := rfl
        simp only [cond_true, hpick, Option.bind_some, put_eq (k := KK) (l := []) (n := 0) (by simp) (by unfold KK; omega)]
        rw [f38_l2]
        rfl
      exact e 2305843009213693950
    · obtain ⟨l', p', s', a1, a2, a3, a4, a5⟩ := vars_ends (k := KK) (by unfold KK; omega) hc hl (v := v) (kd := kd) (by omega) hv2 (by omega) (by omega) kd [] ⟨.nil, fun x hx => by cases hx⟩ (by simp) p1 s1 (by unfold CC at hp; have : kd * DD ≤ 4 * DD := Nat.mul_le_mul_right _ (by omega); unfold DD at *; omega) b2
      have : kd * DD ≤ 4 * DD := Nat.mul_le_mul_right _ (by omega)
      exact ⟨l', p', s', a1, a2, by omega, a4, fun {ρ} nx => a5 KK nx (by unfold DD KK at *; omega)⟩
  obtain ⟨vs, p2, s2, c1, c2, c3, c4, c5⟩ := hvars
  obtain ⟨ss, p3, s3, d1, d2, d3, d4, d5⟩ := signs_loop (k := KK) hc hl (kd : Int) vs (by omega) vs.length 0 (by omega) p2 s2 [] (by unfold CC at hp; unfold DD at c3; omega) c4 rfl (fun x hx => by cases hx)
  refine ⟨(kd : Int), vs, ss, p3, s3, ?_, by unfold CC; unfold DD at c3; omega, d4, ?_⟩
  · unfold vr
    simp only
    rw [dle (show (1 : Int) ≤ (kd : Int) by omega), dle (show (kd : Int) ≤ 4 by omega), c2, d1, c2, ris_of c1.p (fun x hx => by have := c1.r x hx; omega) (fun y e => by cases e), un_of d2]
    simp
  · unfold f38
    rw [m4]
    simp only [Option.bind_some, b3, hkd, c5]
    exact d5 KK _ (by unfold KK; omega)
end Go.Proofs.Ytiilgicmdnllbaa.R
