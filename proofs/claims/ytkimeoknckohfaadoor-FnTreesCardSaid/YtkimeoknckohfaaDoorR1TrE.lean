/- Trees: the text of a tree, and the tree that is read from it. -/
import Derived.Test.YtkimeoknckohfaaDoorR1TrD
import Derived.Test.YtkimeoknckohfaaDoorR1TrB
namespace Go.Proofs.YtkimeoknckohfaaDoor.R
open Go.Proofs.YtkimeoknckohfaaDoor.R1

theorem dns {n : Nat} (h : n ≤ 1000000) : decide ((n : Int) > 9223372036854775807) = false := decide_eq_false (by omega)

theorem dec_ev (k : Nat) {x : Int} (h0 : 0 ≤ x) (h1 : x < 100) : f30 k x = some ((dec x.toNat, ()), ()) := by
  unfold f30 gDecimal Go.Lib.itoa
  rw [if_pos ⟨by omega, by omega⟩, if_neg (by omega), decDigits_eq _ (by omega)]

theorem text_loop {ρ : Type} {n : Nat} (hn : n ≤ 16) {L : List S71} (hl : L.length ≤ 1000) (hL : ∀ e ∈ L, GE n e) (k : Nat) (nx) : ∀ (d i : Nat) (acc : ByteArray) (j : Nat), i + d = L.length → acc.size ≤ 2 + 9 * i → d < j →
    f20_l3 (ρ := ρ) k j acc L (L.length : Int) (i : Int) nx = nx.1 ((txtFrom L d i acc, ()), ())
  | 0, i, acc, j, hi, ha, hj => by
    obtain ⟨j, rfl⟩ : ∃ q, j = q + 1 := ⟨j - 1, by omega⟩
    simp only [f20_l3, txtFrom]
    rw [dnlt (by omega), cond_false]
  | d + 1, i, acc, j, hi, ha, hj => by
    obtain ⟨j, rfl⟩ : ∃ q, j = q + 1 := ⟨j - 1, by omega⟩
    obtain ⟨e, he, hm, hd⟩ := at_edge L i (by omega)
    obtain ⟨g0, g1, g2, g3, g4⟩ := hL e hm
    have a := dec_size e.1.toNat
    have b := dec_size e.2.1.toNat
    have c := dec_size e.2.2.toNat
    have s := edgeTxt_size e
    simp only [S71.f0, S71.f1, S71.f2] at g0 g1 g2 g3 g4
    have ih := text_loop (ρ := ρ) hn hl hL k nx d (i + 1) (acc ++ edgeTxt e) j (by omega) (by rw [ByteArray.size_append]; omega) (by omega)
    simp only [f20_l3, in_cons hd, cond_true, getI_cons hd, Option.bind_some, dec_ev k (show 0 ≤ e.1 from g0) (by omega), dec_ev k (show 0 ≤ e.2.1 by omega) (by omega), dec_ev k (show 0 ≤ e.2.2 by omega) (by omega), wr_succ (show i < 4611686018427387904 by omega), ByteArray.size_append, one_size, txtFrom, he]
    rw [dns (by omega), cond_false, dns (by omega), cond_false, dns (by omega), cond_false, dns (by omega), cond_false, dns (by omega), cond_false, dns (by omega), cond_false]
    exact ih

theorem text_ev {n : Nat} (hn : n ≤ 16) {L : List S71} (hl : L.length ≤ 1000) (hL : ∀ e ∈ L, GE n e) {k : Nat} (hk : 1100 ≤ k) : f20 k (n : Int) L = some ((treeTxt n L, ()), ()) := by
  unfold f20
  rw [dec_ev k (by omega) (by omega), Option.bind_some]
  have h := fun nx => text_loop (ρ := (ByteArray × Unit) × Unit) hn hl hL k nx L.length 0 (dec n) k (by omega) (dec_size n) (by omega)
  rw [show ((0 : Nat) : Int) = 0 from rfl] at h
  simp only [Int.toNat_natCast]
  rw [h]
  rfl

theorem out_ev {n : Nat} {L : List S71} (hv : vT (n : Int) L = true) {k : Nat} (hk : 1100 ≤ k) : f7 k (n : Int) L = some ((treeTxt n L, ()), ()) := by
  obtain ⟨m, e, h0, h1, hl, hL, _, _⟩ := vT_out hv
  obtain rfl : n = m := by omega
  unfold f7
  rw [valid_ev hv hk, Option.bind_some, text_ev h1 (by omega) hL hk]
  rfl

/-! ### A tree is read from its text -/
theorem num_fst (a : ByteArray) : (numOf a).1 = rn a := by
  unfold numOf rn
  cases Go.Lib.parseIntB 64 a.data.toList <;> rfl

theorem num_ev (k : Nat) (b : ByteArray) (h : b.size ≤ 1000000) : ∃ o, f17 k b = some ((rn b, o, ()), ()) := by
  unfold f17 gReadNumber
  rw [if_pos (by omega), num_fst]
  exact ⟨_, rfl⟩

theorem cut_ev (k : Nat) (w : ByteArray) (c : UInt8) (h : w.size ≤ 1000000) : ∃ o, f18 k w ⟨#[c]⟩ = some (((cutB w c).1, (cutB w c).2, o, ()), ()) := by
  unfold f18 gCut
  rw [if_pos (by omega)]
  exact ⟨_, rfl⟩

theorem read_loop {ρ : Type} (k : Nat) (s : ByteArray) (y : List ByteArray) (hy : y.length ≤ 1000) (hs : ∀ p ∈ y, p.size ≤ 1000000) (z a : Int) (nx) : ∀ (rest : List ByteArray) (i : Nat), y.drop i = rest → ∀ (acc : List S71) (j : Nat), acc.length + rest.length ≤ 1000 → rest.length < j →
    f6_l5 (ρ := ρ) k j s y (y.length : Int) (i : Int) z a acc nx = nx.1 ((s, (), (), ()), ((z, (), ()), (a, (), ()), acc ++ rest.map parseE, ()))
  | [], i, h, acc, j, ha, hj => by
    obtain ⟨j, rfl⟩ : ∃ q, j = q + 1 := ⟨j - 1, by omega⟩
    simp only [f6_l5, out_nil h, cond_false, List.map_nil, List.append_nil]
  | w :: rest, i, h, acc, j, ha, hj => by
    simp only [List.length_cons] at ha hj
    obtain ⟨j, rfl⟩ : ∃ q, j = q + 1 := ⟨j - 1, by omega⟩
    have hlt := lt_cons h
    have hz := hs w (List.mem_of_getElem? (at_cons h))
    have z1 := cutB_size w 58
    have z2 := cutB_size (cutB w 58).1 45
    obtain ⟨o1, q1⟩ := cut_ev k w 58 (by omega)
    obtain ⟨o2, q2⟩ := cut_ev k (cutB w 58).1 45 (by omega)
    obtain ⟨o3, q3⟩ := num_ev k (cutB (cutB w 58).1 45).1 (by omega)
    obtain ⟨o4, q4⟩ := num_ev k (cutB (cutB w 58).1 45).2 (by omega)
    obtain ⟨o5, q5⟩ := num_ev k (cutB w 58).2 (by omega)
    have ih := read_loop (ρ := ρ) k s y hy hs z a nx rest (i + 1) (next_cons h) (acc ++ [parseE w]) j (by simp only [List.length_append, List.length_cons, List.length_nil]; omega) (by omega)
    simp only [f6_l5, in_cons h, cond_true, getI_cons h, Option.bind_some, q1, q2, q3, q4, q5, wr_succ (show i < 4611686018427387904 by omega)]
    rw [decide_eq_true (by simp only [List.length_cons, List.length_nil, roomy]; omega), cond_true]
    rw [show List.map parseE (w :: rest) = [parseE w] ++ List.map parseE rest from rfl, ← List.append_assoc]
    exact ih

theorem txtFrom_size (L : List S71) : ∀ (d i : Nat) (acc : ByteArray), (txtFrom L d i acc).size ≤ acc.size + 9 * d
  | 0, i, acc => by simp [txtFrom]
  | d + 1, i, acc => by
    rw [txtFrom]
    have h := txtFrom_size L d (i + 1) (acc ++ edgeTxt (rd_T71 L (i : Int)))
    have g := edgeTxt_size (rd_T71 L (i : Int))
    rw [ByteArray.size_append] at h
    omega

theorem parse_all {n : Nat} (hn : n ≤ 16) : ∀ (L : List S71) (y : List ByteArray), (∀ e ∈ L, GE n e) → y.map (·.data.toList) = L.map body → y.map parseE = L
  | [], [], _, _ => rfl
  | [], w :: y, _, h => by cases h
  | e :: L, [], _, h => by cases h
  | e :: L, w :: y, hL, h => by
    simp only [List.map_cons, List.cons.injEq] at h
    rw [List.map_cons, parseE_body n hn e (hL e List.mem_cons_self) w h.1, parse_all hn L y (fun x hx => hL x (List.mem_cons_of_mem _ hx)) h.2]

theorem read_ev {n : Nat} {L : List S71} (hv : vT (n : Int) L = true) {k : Nat} (hk : 1100 ≤ k) : f6 k (treeTxt n L) = some ((((n : Int), (), ()), true, ()), (L, ())) := by
  obtain ⟨m, e, h0, h1, hl, hL, _, _⟩ := vT_out hv
  obtain rfl : n = m := by omega
  have hsz : (treeTxt n L).size ≤ 1000 := by
    have h := txtFrom_size L L.length 0 (dec n)
    have := dec_size n
    unfold treeTxt
    omega
  have hd := treeTxt_data n L
  have hsp := split_glue 32 (L.map body) (dec n).data.toList (treeTxt n L) hd (dec_no n (by omega) 32 (by decide)) (fun q hq => by
    obtain ⟨e, he, rfl⟩ := List.mem_map.1 hq
    exact body_no n h1 e (hL e he))
  have hz := splitB_sizes ⟨#[32]⟩ (Go.Lib.countB (treeTxt n L) ⟨#[32]⟩) (treeTxt n L)
  have hf : f16 k (treeTxt n L) ⟨#[32]⟩ = some ((Go.Lib.splitB ⟨#[32]⟩ 0 (Go.Lib.countB (treeTxt n L) ⟨#[32]⟩) (treeTxt n L), ()), ()) := by
    unfold f16 gSplit; rw [if_pos ⟨by omega, Nat.le_refl _⟩]
  generalize hs : treeTxt n L = s at *
  generalize Go.Lib.splitB ⟨#[32]⟩ 0 (Go.Lib.countB s ⟨#[32]⟩) s = W at *
  match W, hsp with
  | w :: y, hsp =>
    simp only [List.map_cons, List.cons.injEq] at hsp
    obtain ⟨hw, hy⟩ := hsp
    have hw' : w = dec n := ba_ext hw
    have hp := parse_all h1 L y hL hy
    have hyl : y.length = L.length := by rw [← hp, List.length_map]
    obtain ⟨o, q⟩ := num_ev k w (by have := hz w List.mem_cons_self; omega)
    have hrn : rn w = (n : Int) := by
      rw [hw']
      have := rn_dec (n : Int) (by omega) (by omega)
      rwa [Int.toNat_natCast] at this
    unfold f6
    rw [hf, Option.bind_some]
    simp only [show getI (w :: y) 0 = some w from rfl, Option.bind_some, q, hrn]
    have hsub : sub (w :: y) 1 ((w :: y).length : Int) = y := by unfold sub; rw [Int.toNat_natCast, List.take_length]; rfl
    rw [hsub]
    have hc : (decide ((0 : Nat) ≤ 1) && decide ((1 : Int) ≤ ((w :: y).length : Int)) && decide (((w :: y).length : Int) ≤ ((w :: y).length : Int))) = true := by
      rw [dle (show (1 : Int) ≤ ((w :: y).length : Int) by simp only [List.length_cons]; omega), dle (Int.le_refl _)]; rfl
    rw [hc, cond_true]
    have hlp := fun nx => read_loop (ρ := ((Int × Unit × Unit) × Bool × Unit) × ((List (Int × (Int × Int))) × Unit)) k s y (by omega) (fun p hp => by have := hz p (List.mem_cons_of_mem _ hp); omega) 0 (n : Int) nx y 0 rfl [] k (by simp only [List.length_nil]; omega) (by omega)
    rw [show ((0 : Nat) : Int) = 0 from rfl] at hlp
    rw [hlp]
    simp only [List.nil_append, hp]
    rw [valid_ev hv hk, Option.bind_some]
    simp only [Bool.not_true, cond_false]
    rw [text_ev h1 (by omega) hL hk, hs, Option.bind_some]
    simp only [beq_self_eq_true, Bool.not_true, cond_false]

/-! ### A tree is itself -/
theorem same_loop {ρ : Type} (k : Nat) (L : List S71) (hl : L.length ≤ 1000) (nx) : ∀ (rest : List S71) (i : Nat), L.drop i = rest → ∀ (j : Nat), rest.length < j → f21_l4 (ρ := ρ) k j L L (L.length : Int) (i : Int) nx = nx.1 ((), ())
  | [], i, h, j, hj => by
    obtain ⟨j, rfl⟩ : ∃ q, j = q + 1 := ⟨j - 1, by omega⟩
    simp only [f21_l4, out_nil h, cond_false]
  | e :: rest, i, h, j, hj => by
    simp only [List.length_cons] at hj
    obtain ⟨j, rfl⟩ : ∃ q, j = q + 1 := ⟨j - 1, by omega⟩
    have hlt := lt_cons h
    simp only [f21_l4, in_cons h, cond_true, getI_cons h, Option.bind_some, beq_self_eq_true, Bool.and_self, Bool.not_true, cond_false, wr_succ (show i < 4611686018427387904 by omega)]
    exact same_loop k L hl nx rest (i + 1) (next_cons h) j (by omega)

theorem same_ev {L : List S71} (hl : L.length ≤ 1000) {k : Nat} (hk : 1100 ≤ k) (a : Int) : f8 k a L a L = some ((true, ()), ()) := by
  unfold f8 f21
  rw [beq_self_eq_true, cond_true, show ((L.length : Int) != (L.length : Int)) = false by simp, cond_false]
  have h := fun nx => same_loop (ρ := (Bool × Unit) × Unit) k L hl nx L 0 rfl k (by omega)
  rw [show ((0 : Nat) : Int) = 0 from rfl] at h
  rw [h]
  rfl
end Go.Proofs.YtkimeoknckohfaaDoor.R
