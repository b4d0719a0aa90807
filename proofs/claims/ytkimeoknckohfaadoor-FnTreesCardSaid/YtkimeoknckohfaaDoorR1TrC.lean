/- Trees: distances from a node are what the passes leave; a tree is held valid exactly if it is. -/
import Derived.Test.YtkimeoknckohfaaDoorR1TrM
namespace Go.Proofs.YtkimeoknckohfaaDoor.R
open Go.Proofs.YtkimeoknckohfaaDoor.R1

theorem at_rd {l : List Int} {i : Int} (h0 : 0 ≤ i) (h1 : i < l.length) : l[i.toNat]? = some (rd l i) := by
  have : i.toNat < l.length := by omega
  simp [rd, this]

theorem getI_rd {l : List Int} {i : Int} (h0 : 0 ≤ i) (h1 : i < l.length) : getI l i = some (rd l i) := by
  unfold getI; rw [if_pos h0]; exact at_rd h0 h1

theorem bn {i : Int} {n : Nat} (h0 : 0 ≤ i) (h : i < n) : (decide (0 ≤ i) && decide (i < (n : Int))) = true := bndI h0 h

/-! ### Distances from a node -/
theorem far_way0 {ρ : Type} (k j : Nat) (c : Bool) (Lr : List S71) (len i x y u v n : Int) (L : List S71) (d b : List Int) (e0 e1 e2 : Int) (nx) (x0 : 0 ≤ x) (x1 : x < d.length) (y0 : 0 ≤ y) (y1 : y < d.length) (y2 : y < b.length) (hs : rd d x ≤ 1000) (hl : 0 ≤ e2 ∧ e2 ≤ 1000) :
    f25_l15 (ρ := ρ) k (j + 1) c Lr len i x y u v 0 n L d b e0 e1 e2 nx = if 0 ≤ rd d x ∧ rd d y < 0 then f25_l15 k j true Lr len i x y u v 1 n L (d.set y.toNat (rd d x + e2)) (b.set y.toNat x) e0 e1 e2 nx else f25_l15 k j c Lr len i x y u v 1 n L d b e0 e1 e2 nx := by
  simp only [f25_l15, show decide ((0 : Int) < 2) = true from rfl, decide_true, cond_true, bn x0 x1, at_rd x0 x1, Option.bind_some, bn y0 y1, at_rd y0 y1, bn y0 y2, at_rd y0 y2, show wr .i64 ((0 : Int) + 1) = 1 from rfl]
  by_cases hx : 0 ≤ rd d x
  · rw [decide_eq_true (show rd d x ≥ 0 from hx), cond_true]
    by_cases hy : rd d y < 0
    · rw [dlt hy, cond_true, if_pos ⟨hx, hy⟩, wr_id (by omega) (by omega)]
    · rw [dnlt (by omega), cond_false, if_neg (fun q => hy q.2)]
  · rw [decide_eq_false (show ¬ rd d x ≥ 0 from hx), cond_false, if_neg (fun q => hx q.1)]

theorem far_way1 {ρ : Type} (k j : Nat) (c : Bool) (Lr : List S71) (len i u v x y n : Int) (L : List S71) (d b : List Int) (e0 e1 e2 : Int) (nx) (x0 : 0 ≤ x) (x1 : x < d.length) (y0 : 0 ≤ y) (y1 : y < d.length) (y2 : y < b.length) (hs : rd d x ≤ 1000) (hl : 0 ≤ e2 ∧ e2 ≤ 1000) :
    f25_l15 (ρ := ρ) k (j + 1) c Lr len i u v x y 1 n L d b e0 e1 e2 nx = if 0 ≤ rd d x ∧ rd d y < 0 then f25_l15 k j true Lr len i u v x y 2 n L (d.set y.toNat (rd d x + e2)) (b.set y.toNat x) e0 e1 e2 nx else f25_l15 k j c Lr len i u v x y 2 n L d b e0 e1 e2 nx := by
  simp only [f25_l15, show decide ((1 : Int) < 2) = true from rfl, show decide ((1 : Int) = 0) = false from rfl, decide_true, cond_true, cond_false, bn x0 x1, at_rd x0 x1, Option.bind_some, bn y0 y1, at_rd y0 y1, bn y0 y2, at_rd y0 y2, show wr .i64 ((1 : Int) + 1) = 2 from rfl]
  by_cases hx : 0 ≤ rd d x
  · rw [decide_eq_true (show rd d x ≥ 0 from hx), cond_true]
    by_cases hy : rd d y < 0
    · rw [dlt hy, cond_true, if_pos ⟨hx, hy⟩, wr_id (by omega) (by omega)]
    · rw [dnlt (by omega), cond_false, if_neg (fun q => hy q.2)]
  · rw [decide_eq_false (show ¬ rd d x ≥ 0 from hx), cond_false, if_neg (fun q => hx q.1)]

theorem far_way2 {ρ : Type} (k j : Nat) (c : Bool) (Lr : List S71) (len i u v x y n : Int) (L : List S71) (d b : List Int) (e0 e1 e2 : Int) (nx) :
    f25_l15 (ρ := ρ) k (j + 1) c Lr len i u v x y 2 n L d b e0 e1 e2 nx = nx.1 (((), (), (), c, Lr, len, i, ()), ((n, L, ()), d, b, ())) := by
  simp only [f25_l15, show decide ((2 : Int) < 2) = false from rfl, cond_false]

theorem far_way {ρ : Type} {n : Nat} (hn : n ≤ 16) {L : List S71} {r : Int} {d b : List Int} (s : St n L r d b) {e : S71} (g : GE n e) (k j : Nat) (c : Bool) (Lr : List S71) (len i nn : Int) (LL : List S71) (nx) :
    f25_l15 (ρ := ρ) k (j + 3) c Lr len i e.f0 e.f1 e.f1 e.f0 0 nn LL d b e.f0 e.f1 e.f2 nx = nx.1 (((), (), (), (stp (d, b, c) e).2.2, Lr, len, i, ()), ((nn, LL, ()), (stp (d, b, c) e).1, (stp (d, b, c) e).2.1, ())) := by
  obtain ⟨g0, g1, g2, g3, g4⟩ := id g
  have hd := s.dl
  have hb := s.bl
  have b0 := s.bnd e.f0 g0 (by omega)
  have b1 := s.bnd e.f1 (by omega) g2
  rw [far_way0 k (j + 2) c Lr len i e.f0 e.f1 e.f1 e.f0 nn LL d b e.f0 e.f1 e.f2 nx g0 (by omega) (by omega) (by omega) (by omega) (by omega) ⟨by omega, by omega⟩]
  by_cases hA : 0 ≤ rd d e.f0 ∧ rd d e.f1 < 0
  · rw [if_pos hA, stp_B hA.1 hA.2]
    have q1 : rd (d.set e.f1.toNat (rd d e.f0 + e.f2)) e.f1 = rd d e.f0 + e.f2 := rd_set_eq d e.f1 _ (by omega)
    have q0 : rd (d.set e.f1.toNat (rd d e.f0 + e.f2)) e.f0 = rd d e.f0 := rd_set_ne d e.f1 e.f0 _ (by omega) (by omega) (by omega)
    rw [far_way1 k (j + 1) true Lr len i e.f0 e.f1 e.f1 e.f0 nn LL _ _ e.f0 e.f1 e.f2 nx (by omega) (by rw [List.length_set]; omega) g0 (by rw [List.length_set]; omega) (by rw [List.length_set]; omega) (by rw [q1]; omega) ⟨by omega, by omega⟩]
    rw [if_neg (by rw [q0]; omega), far_way2]
  · rw [if_neg hA]
    rw [far_way1 k (j + 1) c Lr len i e.f0 e.f1 e.f1 e.f0 nn LL d b e.f0 e.f1 e.f2 nx (by omega) (by omega) g0 (by omega) (by omega) (by omega) ⟨by omega, by omega⟩]
    by_cases hB : 0 ≤ rd d e.f1 ∧ rd d e.f0 < 0
    · rw [if_pos hB, stp_A hB.1 hB.2, far_way2]
    · rw [if_neg hB, far_way2]
      have e0 : stp (d, b, c) e = (d, b, c) := by
        unfold stp; rw [if_neg hA, if_neg hB]
      rw [e0]

theorem far_pass {ρ : Type} {n : Nat} (hn : n ≤ 16) {L : List S71} (hlen : L.length ≤ 1000) {r : Int} (hr0 : 0 ≤ r) (hL : ∀ e ∈ L, GE n e) (k : Nat) (hk : 10 ≤ k) (nn : Int) (nx) : ∀ (rest : List S71) (i : Nat), L.drop i = rest → ∀ (d b : List Int) (c : Bool) (j : Nat), rest.length < j → St n L r d b →
    f25_l12 (ρ := ρ) k j c L (L.length : Int) (i : Int) nn L d b nx = nx.1 (((), (), (), (rest.foldl stp (d, b, c)).2.2, ()), ((nn, L, ()), (rest.foldl stp (d, b, c)).1, (rest.foldl stp (d, b, c)).2.1, ()))
  | [], i, h, d, b, c, j, hj, s => by
    obtain ⟨j, rfl⟩ : ∃ q, j = q + 1 := ⟨j - 1, by simp at hj; omega⟩
    simp only [f25_l12, out_nil h, cond_false, List.foldl_nil]
  | e :: rest, i, h, d, b, c, j, hj, s => by
    obtain ⟨j, rfl⟩ : ∃ q, j = q + 1 := ⟨j - 1, by simp at hj; omega⟩
    have hlt := lt_cons h
    have hm : e ∈ L := List.mem_of_getElem? (at_cons h)
    obtain ⟨k', rfl⟩ : ∃ q, k = q + 3 := ⟨k - 3, by omega⟩
    simp only [f25_l12, in_cons h, cond_true, getI_cons h, Option.bind_some]
    have hw := far_way (ρ := ρ) hn s (hL e hm) (k' + 3) k' c L (L.length : Int) (i : Int) nn L
    simp only [S71.f0, S71.f1, S71.f2] at hw
    rw [hw]
    simp only [wr_succ (show i < 4611686018427387904 by omega), List.foldl_cons]
    exact far_pass hn hlen hr0 hL (k' + 3) hk nn nx rest (i + 1) (next_cons h) _ _ _ j (by simpa using hj) (stp_ok (c := c) s hr0 e hm (hL e hm)).1

theorem far_fin {ρ : Type} {n : Nat} (hn : n ≤ 16) {L : List S71} (hlen : L.length ≤ 1000) {r : Int} (hr0 : 0 ≤ r) (hL : ∀ e ∈ L, GE n e) (k : Nat) (hk : 1010 ≤ k) (nn : Int) (nx) : ∀ (m : Nat) (d b : List Int) (j : Nat), m < j → neg d < m → St n L r d b →
    f25_l9 (ρ := ρ) k j true nn L d b nx = nx.1 (((), (), ()), ((fin L m d b).1, (fin L m d b).2, ()))
  | 0, d, b, j, hj, h, _ => by omega
  | m + 1, d, b, j, hj, h, s => by
    obtain ⟨j, rfl⟩ : ∃ q, j = q + 1 := ⟨j - 1, by omega⟩
    simp only [f25_l9, cond_true]
    rw [show (0 : Int) = ((0 : Nat) : Int) from rfl, far_pass hn hlen hr0 hL k (by omega) nn _ L 0 rfl d b false k (by omega) s]
    obtain ⟨i1, i2⟩ := pass_ok (n := n) (L := L) hr0 L d b false (fun e he => ⟨he, hL e he⟩) s
    unfold fin
    simp only []
    cases hc : (L.foldl stp (d, b, false)).2.2 with
    | false =>
      obtain ⟨j, rfl⟩ : ∃ q, j = q + 1 := ⟨j - 1, by omega⟩
      simp only [f25_l9, cond_false, Bool.false_eq_true, if_false]
      rcases i2 with ⟨i2, _⟩ | ⟨_, i3⟩
      · rw [i2]
      · rw [hc] at i3; cases i3
    | true =>
      simp only [if_true]
      rcases i2 with ⟨i2, _⟩ | ⟨i2, _⟩
      · rw [i2] at hc; cases hc
      · exact far_fin hn hlen hr0 hL k hk nn nx m _ _ j (by omega) (by omega) i1

theorem far_start {ρ : Type} {n : Nat} (hn : n ≤ 16) (r nn : Int) (L : List S71) (k : Nat) (nx) : ∀ (m i : Nat) (d b : List Int) (j : Nat), i + m = n → m < j → d.length = n → b.length = n → (∀ j, j < i → d[j]? = some (-1)) → (∀ j, j < i → b[j]? = some (-1)) →
    f25_l3 (ρ := ρ) k j r (n : Int) (i : Int) nn L d b nx = nx.1 ((r, (), (), (), ()), ((nn, L, ()), List.replicate n (-1), List.replicate n (-1), ()))
  | 0, i, d, b, j, hi, hj, hd, hb, kd, kb => by
    obtain ⟨j, rfl⟩ : ∃ q, j = q + 1 := ⟨j - 1, by omega⟩
    have e : i = n := by omega
    subst e
    simp only [f25_l3]
    rw [dnlt (by omega), cond_false, all_neg1 d i hd kd, all_neg1 b i hb kb]
  | m + 1, i, d, b, j, hi, hj, hd, hb, kd, kb => by
    obtain ⟨j, rfl⟩ : ∃ q, j = q + 1 := ⟨j - 1, by omega⟩
    simp only [f25_l3]
    rw [dlt (by omega), cond_true, bn (by omega) (by omega), cond_true, at_rd (by omega) (by omega), Option.bind_some, bn (by omega) (by omega), cond_true, at_rd (by omega) (by omega), Option.bind_some]
    simp only [wr_succ (show i < 4611686018427387904 by omega), Int.toNat_natCast]
    exact far_start hn r nn L k nx m (i + 1) (d.set i (-1)) (b.set i (-1)) j (by omega) (by omega) (by simpa using hd) (by simpa using hb) (set_neg1 d i n hd (by omega) kd) (set_neg1 b i n hb (by omega) kb)

theorem far_ev {n : Nat} (hn : n ≤ 16) {L : List S71} (hlen : L.length ≤ 1000) {r : Int} (hr0 : 0 ≤ r) (hr1 : r < n) (hL : ∀ e ∈ L, GE n e) {k : Nat} (hk : 1100 ≤ k) :
    f25 k (n : Int) L r = some (((), (), ()), ((tab n L r).1, (tab n L r).2, ())) := by
  unfold f25
  rw [show (decide ((n : Int) = (n : Int)) && decide (0 ≤ (n : Int)) && decide ((n : Int) * 8 ≤ (roomy : Int))) = true by
    rw [decide_eq_true rfl, dle (by omega), dle (by simp only [roomy]; omega)]; rfl]
  simp only [cond_true, Int.toNat_natCast, List.length_replicate]
  have hst := fun nx => far_start (ρ := (Unit × Unit × Unit) × ((List Int) × (List Int) × Unit)) hn r (n : Int) L k nx n 0 (List.replicate n 0) (List.replicate n 0) k (by omega) (by omega) (by simp) (by simp) (fun j h => absurd h (Nat.not_lt_zero _)) (fun j h => absurd h (Nat.not_lt_zero _))
  rw [show ((0 : Nat) : Int) = 0 from rfl] at hst
  rw [hst]
  simp only []
  rw [bn (by omega) (by rw [List.length_replicate]; omega), cond_true, at_rd (by omega) (by rw [List.length_replicate]; omega), Option.bind_some]
  have hneg := neg_le ((List.replicate n (-1 : Int)).set r.toNat 0)
  simp only [List.length_set, List.length_replicate] at hneg
  rw [far_fin hn hlen hr0 hL k (by omega) (n : Int) _ (n + 1) _ _ k (by omega) (by omega) (St.start n L r hr0 hr1)]
  rfl

/-! ### Valid trees -/
theorem within_ev (k : Nat) (a b c : Int) : f32 k a b c = some ((decide (b ≤ a) && decide (a ≤ c), ()), ()) := by
  unfold f32
  rw [show decide (a ≥ b) = decide (b ≤ a) from rfl]
  cases decide (b ≤ a) <;> rfl

theorem cmp_ev (k : Nat) (a b : Int) : f46 k a b = some ((if a < b then -1 else if b < a then 1 else 0, ()), ()) := by
  unfold f46 f61
  simp only [Option.bind_some, show (a != a) = false by simp, show (b != b) = false by simp, cond_false]
  by_cases h : a < b
  · rw [dlt h, if_pos h]; rfl
  · rw [dnlt (by omega), cond_false, if_neg h]
    by_cases g : b < a
    · rw [decide_eq_true (show a > b from g), if_pos g]; rfl
    · rw [decide_eq_false (show ¬ a > b from g), if_neg g]; rfl

theorem or_ev {k : Nat} (hk : 5 ≤ k) (a b : Int) : f45 k [a, b] = some ((if a = 0 then b else a, ()), ()) := by
  obtain ⟨k, rfl⟩ : ∃ q, k = q + 3 := ⟨k - 3, by omega⟩
  unfold f45
  rw [show (([a, b] : List Int).length : Int) = 2 from rfl]
  simp only [f45_l3, show decide ((0 : Int) < 2) = true from rfl, show getI [a, b] 0 = some a from rfl, Option.bind_some, cond_true, show wr .i64 ((0 : Int) + 1) = 1 from rfl, show decide ((1 : Int) < 2) = true from rfl, show getI [a, b] 1 = some b from rfl, show wr .i64 ((1 : Int) + 1) = 2 from rfl, show decide ((2 : Int) < 2) = false from rfl, cond_false]
  by_cases ha : a = 0
  · subst ha
    rw [show ((0 : Int) != 0) = false from rfl, cond_false, if_pos rfl]
    by_cases hb : b = 0
    · subst hb; rfl
    · rw [show (b != 0) = true by simpa using hb]; rfl
  · rw [show (a != 0) = true by simpa using ha, cond_true, if_neg ha]

theorem min_loop {ρ : Type} (k : Nat) (l : List Int) (hl : l.length ≤ 1000) (nx) : ∀ (rest : List Int) (i : Nat), l.drop i = rest → ∀ (x : Int) (j : Nat), rest.length < j → ∃ v, f34_l5 (ρ := ρ) k j l x (i : Int) nx = nx.1 ((v, ()), ()) ∧ (0 ≤ v ↔ 0 ≤ x ∧ ∀ y ∈ rest, 0 ≤ y)
  | [], i, h, x, j, hj => by
    obtain ⟨j, rfl⟩ : ∃ q, j = q + 1 := ⟨j - 1, by simp at hj; omega⟩
    exact ⟨x, by simp only [f34_l5, out_nil h, cond_false], by simp⟩
  | y :: rest, i, h, x, j, hj => by
    obtain ⟨j, rfl⟩ : ∃ q, j = q + 1 := ⟨j - 1, by simp at hj; omega⟩
    have hlt := lt_cons h
    obtain ⟨v, h1, h2⟩ := min_loop k l hl nx rest (i + 1) (next_cons h) (bif decide (y < x) then y else x) j (by simpa using hj)
    refine ⟨v, by simp only [f34_l5, in_cons h, cond_true, getI_cons h, Option.bind_some, wr_succ (show i < 4611686018427387904 by omega)]; exact h1, ?_⟩
    rw [h2]
    simp only [List.mem_cons, forall_eq_or_imp]
    by_cases q : y < x
    · rw [dlt q, cond_true]
      exact ⟨fun h => ⟨by omega, h.1, h.2⟩, fun h => ⟨h.2.1, h.2.2⟩⟩
    · rw [dnlt (by omega), cond_false]
      exact ⟨fun h => ⟨h.1, by omega, h.2⟩, fun h => ⟨h.1, h.2.2⟩⟩

theorem min_ev {k : Nat} (l : List Int) (hne : l ≠ []) (hl : l.length ≤ 1000) (hk : 1100 ≤ k) : ∃ v, f34 k l = some ((v, ()), ()) ∧ (0 ≤ v ↔ ∀ y ∈ l, 0 ≤ y) := by
  cases l with
  | nil => exact absurd rfl hne
  | cons x r =>
    have hr : (x :: r).drop 1 = r := rfl
    obtain ⟨v, h1, h2⟩ := min_loop (ρ := (Int × Unit) × Unit) k (x :: r) hl (fun x8 => some ((x8.1.1, ()), ()), ()) r 1 hr x k (by simp at hl; omega)
    refine ⟨v, ?_, ?_⟩
    · unfold f34
      rw [dnlt (by simp only [List.length_cons]; omega), cond_false, show getI (x :: r) 0 = some x from rfl, Option.bind_some]
      exact h1
    · rw [h2]; simp

theorem within_yes (k : Nat) (a b c : Int) (h0 : b ≤ a) (h1 : a ≤ c) : f32 k a b c = some ((true, ()), ()) := by
  rw [within_ev, dle h0, dle h1]; rfl

/-- Edges before one another by nodes: the comparison is below zero. -/
theorem cmpor_neg (a b c d : Int) (h : a < b ∨ (a = b ∧ c < d)) : (if (if a < b then (-1 : Int) else if b < a then 1 else 0) = 0 then (if c < d then (-1 : Int) else if d < c then 1 else 0) else (if a < b then (-1 : Int) else if b < a then 1 else 0)) < 0 := by
  repeat' split
  all_goals omega

theorem len_ev (k : Nat) (L : List S71) : f47 k L = some (((L.length : Int), ()), ()) := rfl

theorem are_loop {ρ : Type} {n : Nat} (h2 : 2 ≤ n) (hn : n ≤ 16) {L : List S71} (hlen : L.length ≤ 1000) (k : Nat) (hk : 10 ≤ k) (nx) : ∀ (m i : Nat) (j : Nat), i + m = L.length → m < j → okFrom n L m i = true →
    f33_l2 (ρ := ρ) k j L (L.length : Int) (i : Int) (n : Int) L nx = nx.1 (((), ()), (((n : Int), L, ()), ()))
  | 0, i, j, hi, hj, _ => by
    obtain ⟨j, rfl⟩ : ∃ q, j = q + 1 := ⟨j - 1, by omega⟩
    simp only [f33_l2]
    rw [dnlt (by omega), cond_false]
  | m + 1, i, j, hi, hj, ho => by
    obtain ⟨j, rfl⟩ : ∃ q, j = q + 1 := ⟨j - 1, by omega⟩
    obtain ⟨e, he, hm, hd⟩ := at_edge L i (by omega)
    simp only [okFrom, Bool.and_eq_true, he] at ho
    obtain ⟨o1, o2, o3⟩ := ho
    obtain ⟨g0, g1, g2, g3, g4⟩ := (gE_iff n e).1 o1
    have ih := are_loop (ρ := ρ) h2 hn hlen k hk nx m (i + 1) j (by omega) (by omega) o3
    simp only [f33_l2, in_cons hd, cond_true, getI_cons hd, Option.bind_some]
    rw [wr_id (show -4611686018427387904 ≤ (n : Int) - 1 by omega) (by omega), within_yes k e.2.1 1 ((n : Int) - 1) (by simp only [S71.f0, S71.f1] at g0 g1; omega) (by simp only [S71.f0, S71.f1] at g2; omega), Option.bind_some]
    rw [show (!(((true, ()), ()) : (Bool × Unit) × Unit).1.1) = false from rfl, cond_false]
    rw [wr_id (show -4611686018427387904 ≤ e.2.1 - 1 by simp only [S71.f0, S71.f1] at g0 g1; omega) (by simp only [S71.f0, S71.f1] at g2; omega), within_yes k e.1 0 (e.2.1 - 1) (by simpa only [S71.f0] using g0) (by simp only [S71.f0, S71.f1] at g1; omega), Option.bind_some]
    rw [show (!(((true, ()), ()) : (Bool × Unit) × Unit).1.1) = false from rfl, cond_false]
    rw [within_yes k e.2.2 1 20 (by simpa only [S71.f2] using g3) (by simpa only [S71.f2] using g4), Option.bind_some]
    rw [show (!(((true, ()), ()) : (Bool × Unit) × Unit).1.1) = false from rfl, cond_false]
    rw [wr_succ (show i < 4611686018427387904 by omega), ih]
    by_cases q : i = 0
    · subst q; rfl
    · obtain ⟨e', he', hm', hd'⟩ := at_edge L (i - 1) (by omega)
      rw [he'] at o2
      simp only [Bool.or_eq_true, decide_eq_true_iff, q, false_or] at o2
      have o2' := (ltE_iff e' e).1 o2
      rw [decide_eq_true (show (i : Int) > 0 by omega), cond_true, show wr .i64 ((i : Int) - 1) = ((i - 1 : Nat) : Int) by rw [wr_id (by omega) (by omega)]; omega]
      simp only [getI_cons hd', Option.bind_some, cmp_ev, or_ev (show 5 ≤ k by omega)]
      have hneg := cmpor_neg e'.1 e.1 e'.2.1 e.2.1 o2'
      rw [decide_eq_false (by omega), cond_false]

theorem are_ev {n : Nat} (h2 : 2 ≤ n) (hn : n ≤ 16) {L : List S71} (hlen : L.length = n - 1) (ho : okFrom n L L.length 0 = true) {k : Nat} (hk : 1100 ≤ k) : f33 k (n : Int) L = some ((true, ()), ()) := by
  unfold f33
  have h := fun nx => are_loop (ρ := (Bool × Unit) × Unit) h2 hn (show L.length ≤ 1000 by omega) k (by omega) nx L.length 0 k (by omega) (by omega) ho
  rw [show ((0 : Nat) : Int) = 0 from rfl] at h
  rw [h]
  simp only []
  rw [len_ev, Option.bind_some, wr_id (by omega) (by omega), show ((L.length : Int) == (n : Int) - 1) = true by rw [beq_iff_eq]; omega]

/-- A valid tree is held valid. -/
theorem valid_ev {a : Int} {L : List S71} (hv : vT a L = true) {k : Nat} (hk : 1100 ≤ k) : f19 k a L = some ((true, ()), ()) := by
  obtain ⟨n, rfl, h2, hn, hl, hL, ho, hr⟩ := vT_out hv
  unfold f19
  rw [within_yes k (n : Int) 2 16 (by omega) (by omega), Option.bind_some, show (!(((true, ()), ()) : (Bool × Unit) × Unit).1.1) = false from rfl, cond_false]
  rw [are_ev h2 hn hl ho hk, Option.bind_some, show (!(((true, ()), ()) : (Bool × Unit) × Unit).1.1) = false from rfl, cond_false]
  rw [far_ev hn (by omega) (by omega) (by omega) hL hk, Option.bind_some]
  have hd := (tab_done n L 0 (by omega) (by omega) hL).st.dl
  obtain ⟨v, h1, h3⟩ := min_ev (k := k) (tab n L 0).1 (by intro h; rw [h] at hd; simp at hd; omega) (by omega) hk
  rw [h1, Option.bind_some]
  have : 0 ≤ v := by
    rw [h3]
    intro y hy
    obtain ⟨i, hi, e⟩ := List.getElem_of_mem hy
    have := hr (i : Int) (by omega) (by omega)
    rw [rdI _ _ hi, e] at this
    exact this
  rw [decide_eq_true (show v ≥ 0 from this)]
end Go.Proofs.YtkimeoknckohfaaDoor.R
