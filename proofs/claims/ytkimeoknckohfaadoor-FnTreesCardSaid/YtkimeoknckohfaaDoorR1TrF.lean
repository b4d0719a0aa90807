/- Trees: leaves, their distances, ways. -/
import Derived.Test.YtkimeoknckohfaaDoorR1TrE
namespace Go.Proofs.YtkimeoknckohfaaDoor.R
open Go.Proofs.YtkimeoknckohfaaDoor.R1

theorem roomy_ok {x : Nat} (h : x ≤ 1000) {c : Nat} (hc : c ≤ 100) : decide (x * c ≤ roomy) = true := by
  have : x * c ≤ 1000 * 100 := Nat.mul_le_mul h hc
  exact decide_eq_true (by simp only [roomy]; omega)

/-! ### Leaves -/
theorem pick_loop {ρ : Type} (k n : Nat) (hn : n ≤ 16) (L : List S71) (c : List Int) (hc : c.length = n) (h : ∀ i : Nat, i < n → rd c i = dg L i) (nx) : ∀ (d i : Nat) (acc : List Int), i + d = n → acc.length ≤ i → ∀ j, d < j →
    f22_l10 (ρ := ρ) k j (n : Int) (i : Int) acc c nx = nx.1 (((), ()), (pick (isLeaf L) d i acc, ()))
  | 0, i, acc, hi, ha, j, hj => by
    obtain ⟨j, rfl⟩ : ∃ q, j = q + 1 := ⟨j - 1, by omega⟩
    simp only [f22_l10, pick]
    rw [dnlt (by omega), cond_false]
  | d + 1, i, acc, hi, ha, j, hj => by
    obtain ⟨j, rfl⟩ : ∃ q, j = q + 1 := ⟨j - 1, by omega⟩
    simp only [f22_l10, pick, isLeaf, decide_eq_true_iff, wr_succ (show i < 4611686018427387904 by omega)]
    rw [dlt (by omega), cond_true, bn (by omega) (by omega), cond_true, at_rd (by omega) (by omega), Option.bind_some, h i (by omega)]
    by_cases q : dg L i = 1
    · rw [if_pos q, show (((dg L i : Nat) : Int) == 1) = true by rw [beq_iff_eq]; omega, cond_true, roomy_ok (by simp only [List.length_cons, List.length_nil]; omega) (by omega), cond_true]
      exact pick_loop k n hn L c hc h nx d (i + 1) (acc ++ [(i : Int)]) (by omega) (by simp only [List.length_append, List.length_cons, List.length_nil]; omega) j (by omega)
    · rw [if_neg q, show (((dg L i : Nat) : Int) == 1) = false by rw [beq_eq_false_iff_ne]; omega, cond_false]
      exact pick_loop k n hn L c hc h nx d (i + 1) acc (by omega) (by omega) j (by omega)

theorem count_loop {ρ : Type} (k n : Nat) (hn : n ≤ 16) (L : List S71) (hl : L.length ≤ 1000) (hL : ∀ e ∈ L, GE n e) (nx) : ∀ (d i : Nat) (c : List Int), i + d = L.length → c.length = n → (∀ x : Nat, x < n → rd c x + dg (L.drop i) x = dg L x) → (∀ x : Nat, x < n → 0 ≤ rd c x) → ∀ j, d < j →
    ∃ c', f22_l3 (ρ := ρ) k j L (L.length : Int) (i : Int) c nx = nx.1 (((), ()), (c', ())) ∧ c'.length = n ∧ ∀ x : Nat, x < n → rd c' x = dg L x
  | 0, i, c, hi, hc, h, h0, j, hj => by
    obtain ⟨j, rfl⟩ : ∃ q, j = q + 1 := ⟨j - 1, by omega⟩
    refine ⟨c, ?_, hc, fun x hx => ?_⟩
    · simp only [f22_l3]
      rw [dnlt (by omega), cond_false]
    · have := h x hx
      rw [List.drop_of_length_le (by omega)] at this
      simpa [dg] using this
  | d + 1, i, c, hi, hc, h, h0, j, hj => by
    obtain ⟨j, rfl⟩ : ∃ q, j = q + 1 := ⟨j - 1, by omega⟩
    obtain ⟨e, he, hm, hd⟩ := at_edge L i (by omega)
    obtain ⟨g0, g1, g2, g3, g4⟩ := hL e hm
    obtain ⟨a, ha⟩ : ∃ a : Nat, e.1 = a := ⟨e.f0.toNat, by simp only [S71.f0, S71.f1] at *; omega⟩
    obtain ⟨b, hb⟩ : ∃ b : Nat, e.2.1 = b := ⟨e.f1.toNat, by simp only [S71.f0, S71.f1] at *; omega⟩
    have hab : a ≠ b := by simp only [S71.f0, S71.f1] at *; omega
    have han : a < n := by simp only [S71.f0, S71.f1] at *; omega
    have hbn : b < n := by simp only [S71.f0, S71.f1] at *; omega
    have ra : rd c a + 1 ≤ 1048577 := by have := h a (by omega); have := dg_le L a; omega
    have rb : rd c b + 1 ≤ 1048577 := by have := h b (by omega); have := dg_le L b; omega
    have pa := h0 a (by omega)
    have pb := h0 b (by omega)
    have hrd : ∀ x : Nat, rd ((c.set a (rd c a + 1)).set b (rd c b + 1)) x = rd c x + (if e.f0 = x ∨ e.f1 = x then 1 else 0) := by
      intro x
      have e1 := rd_set (c.set a (rd c a + 1)) (b : Int) (x : Int) (rd c b + 1) (by omega) (by omega) (by rw [List.length_set]; omega)
      have e2 := rd_set c (a : Int) (x : Int) (rd c a + 1) (by omega) (by omega) (by omega)
      rw [Int.toNat_natCast] at e1 e2
      rw [e1, e2]
      simp only [S71.f0, S71.f1, ha, hb]
      by_cases q : x = b
      · subst q; rw [if_pos rfl, if_pos (.inr rfl)]
      · rw [if_neg (by omega)]
        by_cases r : x = a
        · subst r; rw [if_pos rfl, if_pos (.inl rfl)]
        · rw [if_neg (by omega), if_neg (by omega)]; omega
    obtain ⟨c', h1, h2⟩ := count_loop (ρ := ρ) k n hn L hl hL nx d (i + 1) ((c.set a (rd c a + 1)).set b (rd c b + 1)) (by omega) (by rw [List.length_set, List.length_set, hc]) (by
      intro x hx
      have := h x hx
      rw [hd, dg_cons] at this
      rw [hrd x]
      split at this <;> split <;> simp_all <;> omega) (by
      intro x hx
      have := h0 x hx
      rw [hrd x]
      split <;> omega) j (by omega)
    refine ⟨c', ?_, h2⟩
    have rne := rd_set_ne c a b (rd c a + 1) (by omega) (by omega) (by omega)
    rw [Int.toNat_natCast] at rne
    simp only [f22_l3, in_cons hd, cond_true, getI_cons hd, Option.bind_some, ha, hb, wr_succ (show i < 4611686018427387904 by omega)]
    rw [bn (show 0 ≤ (a : Int) by omega) (show (a : Int) < c.length by omega), cond_true, at_rd (show 0 ≤ (a : Int) by omega) (by omega), Option.bind_some, cond_true, Option.bind_some]
    rw [wr_id (show -4611686018427387904 ≤ rd c (a : Int) + 1 by omega) (by omega), Int.toNat_natCast, Int.toNat_natCast]
    rw [bn (by omega) (by rw [List.length_set]; omega), cond_true]
    have hat : (c.set a (rd c a + 1))[b]? = some (rd c b) := by
      have := at_rd (l := c.set a (rd c a + 1)) (i := (b : Int)) (by omega) (by rw [List.length_set]; omega)
      rwa [Int.toNat_natCast, rne] at this
    rw [hat, Option.bind_some, cond_true, Option.bind_some, wr_id (show -4611686018427387904 ≤ rd c (b : Int) + 1 by omega) (by omega)]
    exact h1

theorem leaves_ev {n : Nat} (hn : n ≤ 16) {L : List S71} (hl : L.length ≤ 1000) (hL : ∀ e ∈ L, GE n e) {k : Nat} (hk : 1100 ≤ k) : f22 k (n : Int) L = some (((), ()), (leavesL n L, ())) := by
  have hz : ∀ x : Nat, x < n → rd (List.replicate n (0 : Int)) x = 0 := by intro x hx; simp [rd, List.getD_eq_getElem?_getD, hx]
  unfold f22
  rw [show (decide ((n : Int) = (n : Int)) && decide (0 ≤ (n : Int)) && decide ((n : Int) * 8 ≤ (roomy : Int))) = true by
    rw [decide_eq_true rfl, dle (by omega), dle (by simp only [roomy]; omega)]; rfl]
  simp only [cond_true, Int.toNat_natCast]
  have h1 := fun nx => count_loop (ρ := (Unit × Unit) × ((List Int) × Unit)) k n hn L hl hL nx L.length 0 (List.replicate n 0) (by omega) (by simp) (fun x hx => by rw [hz x hx, List.drop_zero]; omega) (fun x hx => by rw [hz x hx]; omega) k (by omega)
  rw [show ((0 : Nat) : Int) = 0 from rfl] at h1
  obtain ⟨c', e, hc, hr⟩ := h1 (fun x24 : ((Unit × Unit) × ((List Int) × Unit)) => f22_l10 k k (x24.2.1.length : Int) 0 ([] : List Int) x24.2.1 (fun x25 : ((Unit × Unit) × ((List Int) × Unit)) => some (((), ()), (x25.2.1, ())), ()), ())
  rw [e]
  simp only [hc]
  have h2 := fun nx => pick_loop (ρ := (Unit × Unit) × ((List Int) × Unit)) k n hn L c' hc hr nx n 0 [] (by omega) (by simp) k (by omega)
  rw [show ((0 : Nat) : Int) = 0 from rfl] at h2
  rw [h2]
  rfl

theorem leavesOf_ev {n : Nat} {L : List S71} (hv : vT (n : Int) L = true) {k : Nat} (hk : 1100 ≤ k) : f9 k (n : Int) L = some (((), ()), (leavesL n L, ())) := by
  obtain ⟨m, e, h0, h1, hl, hL, _, _⟩ := vT_out hv
  obtain rfl : n = m := by omega
  unfold f9
  rw [valid_ev hv hk, Option.bind_some, leaves_ev h1 (by omega) hL hk]
  rfl

/-! ### Distances of leaves -/
theorem chosen_loop {ρ : Type} (k : Nat) (d c : List Int) (hc : c.length ≤ 1000) (hb : ∀ x ∈ c, 0 ≤ x ∧ x < d.length) (nx) : ∀ (rest : List Int) (i : Nat), c.drop i = rest → ∀ (acc : List Int) (j : Nat), acc.length + rest.length ≤ 1000 → rest.length < j →
    f35_l3 (ρ := ρ) k j d c (c.length : Int) (i : Int) acc nx = nx.1 (((), ()), (acc ++ rest.map (fun x => rd d x), ()))
  | [], i, h, acc, j, ha, hj => by
    obtain ⟨j, rfl⟩ : ∃ q, j = q + 1 := ⟨j - 1, by omega⟩
    simp only [f35_l3, out_nil h, cond_false, List.map_nil, List.append_nil]
  | x :: rest, i, h, acc, j, ha, hj => by
    simp only [List.length_cons] at ha hj
    obtain ⟨j, rfl⟩ : ∃ q, j = q + 1 := ⟨j - 1, by omega⟩
    have hlt := lt_cons h
    obtain ⟨x0, x1⟩ := hb x (List.mem_of_getElem? (at_cons h))
    have ih := chosen_loop (ρ := ρ) k d c hc hb nx rest (i + 1) (next_cons h) (acc ++ [rd d x]) j (by simp only [List.length_append, List.length_cons, List.length_nil]; omega) (by omega)
    simp only [f35_l3, in_cons h, cond_true, getI_cons h, Option.bind_some, getI_rd x0 x1, wr_succ (show i < 4611686018427387904 by omega)]
    rw [roomy_ok (by simp only [List.length_cons, List.length_nil]; omega) (by omega), cond_true, ih, List.append_assoc]
    rfl

theorem chosen_ev {k : Nat} (hk : 1100 ≤ k) (d c : List Int) (hc : c.length ≤ 1000) (hb : ∀ x ∈ c, 0 ≤ x ∧ x < d.length) : f35 k d c = some (((), ()), (c.map (fun x => rd d x), ())) := by
  unfold f35
  have h := fun nx => chosen_loop (ρ := (Unit × Unit) × ((List Int) × Unit)) k d c hc hb nx c 0 rfl [] k (by simp only [List.length_nil]; omega) (by omega)
  rw [show ((0 : Nat) : Int) = 0 from rfl] at h
  rw [h]
  rfl

theorem dists_loop {ρ : Type} {n : Nat} (hn : n ≤ 16) {L : List S71} (hl : L.length ≤ 1000) (hL : ∀ e ∈ L, GE n e) {k : Nat} (hk : 1100 ≤ k) (lv : List Int) (hlv : lv.length ≤ 16) (hm : ∀ x ∈ lv, 0 ≤ x ∧ x < n) (nx) : ∀ (rest : List Int) (i : Nat), lv.drop i = rest → ∀ (acc : List (List Int)) (j : Nat), acc.length + rest.length ≤ 1000 → rest.length < j →
    f23a_l4 (ρ := ρ) k j (lv.length : Int) (i : Int) (n : Int) L lv acc nx = nx.1 (((), ()), (acc ++ rest.map (distRow n L lv), ()))
  | [], i, h, acc, j, ha, hj => by
    obtain ⟨j, rfl⟩ : ∃ q, j = q + 1 := ⟨j - 1, by omega⟩
    simp only [f23a_l4, out_nil h, cond_false, List.map_nil, List.append_nil]
  | x :: rest, i, h, acc, j, ha, hj => by
    simp only [List.length_cons] at ha hj
    obtain ⟨j, rfl⟩ : ∃ q, j = q + 1 := ⟨j - 1, by omega⟩
    have hlt := lt_cons h
    obtain ⟨x0, x1⟩ := hm x (List.mem_of_getElem? (at_cons h))
    have hd := (tab_done n L x x0 x1 hL).st.dl
    have ih := dists_loop (ρ := ρ) hn hl hL hk lv hlv hm nx rest (i + 1) (next_cons h) (acc ++ [distRow n L lv x]) j (by simp only [List.length_append, List.length_cons, List.length_nil]; omega) (by omega)
    simp only [f23a_l4, in_cons h, show decide (0 ≤ (i : Int)) = true from dle (by omega), Bool.and_self, cond_true]
    rw [Int.toNat_natCast, at_cons h, Option.bind_some, far_ev hn hl x0 x1 hL hk, Option.bind_some]
    simp only []
    rw [chosen_ev hk (tab n L x).1 lv (by omega) (fun y hy => by have := hm y hy; rw [hd]; omega), Option.bind_some, roomy_ok (by simp only [List.length_cons, List.length_nil]; omega) (by omega), cond_true, wr_succ (show i < 4611686018427387904 by omega)]
    rw [show List.map (distRow n L lv) (x :: rest) = [distRow n L lv x] ++ List.map (distRow n L lv) rest from rfl, ← List.append_assoc]
    exact ih

theorem dists_ev {n : Nat} {L : List S71} (hv : vT (n : Int) L = true) {k : Nat} (hk : 1100 ≤ k) : f10a k (n : Int) L = some (((), ()), (distOf n L (leavesL n L), ())) := by
  obtain ⟨m, e, h0, h1, hl, hL, _, _⟩ := vT_out hv
  obtain rfl : n = m := by omega
  have hlen := leavesL_len n L
  unfold f10a
  rw [valid_ev hv hk, Option.bind_some]
  simp only [Bool.not_true, cond_false]
  unfold f23a
  rw [leaves_ev h1 (by omega) hL hk, Option.bind_some]
  simp only []
  have h := fun nx => dists_loop (ρ := (Unit × Unit) × ((List (List Int)) × Unit)) h1 (show L.length ≤ 1000 by omega) hL hk (leavesL n L) (by omega) (fun x hx => leavesL_mem hx) nx (leavesL n L) 0 rfl [] k (by simp only [List.length_nil]; omega) (by omega)
  rw [show ((0 : Nat) : Int) = 0 from rfl] at h
  rw [h]
  rfl

/-! ### Ways and distances -/
theorem node_ev {n : Nat} (hn : n ≤ 16) (L : List S71) {x : Int} (x0 : 0 ≤ x) (x1 : x < n) (k : Nat) : f24 k (n : Int) L x = some ((true, ()), ()) := by
  unfold f24
  rw [wr_id (by omega) (by omega), within_yes k x 0 ((n : Int) - 1) x0 (by omega)]
  rfl

theorem dist_ev {n : Nat} {L : List S71} (hv : vT (n : Int) L = true) {k : Nat} (hk : 1100 ≤ k) {x y : Int} (x0 : 0 ≤ x) (x1 : x < n) (y0 : 0 ≤ y) (y1 : y < n) : f12 k (n : Int) L x y = some ((DD n L x y, ()), ()) := by
  obtain ⟨m, e, h0, h1, hl, hL, _, _⟩ := vT_out hv
  obtain rfl : n = m := by omega
  have hd := (tab_done n L x x0 x1 hL).st.dl
  unfold f12
  rw [valid_ev hv hk, Option.bind_some]
  simp only [Bool.not_true, cond_false, node_ev h1 L x0 x1 k, node_ev h1 L y0 y1 k, Option.bind_some]
  rw [far_ev h1 (by omega) x0 x1 hL hk, Option.bind_some]
  simp only []
  rw [bn y0 (by omega), cond_true, at_rd y0 (by omega), Option.bind_some]
  rfl

def path (b : List Int) (y : Int) : Nat → Int → List Int
  | 0, _ => []
  | m + 1, x => if x = y then [] else rd b x :: path b y m (rd b x)

theorem path_len (b : List Int) (y : Int) : ∀ (m : Nat) (x : Int), (path b y m x).length ≤ m
  | 0, x => by simp [path]
  | m + 1, x => by
    unfold path
    split
    · simp
    · have := path_len b y m (rd b x); simp; omega

theorem path_loop {ρ : Type} (k : Nat) {n : Nat} {L : List S71} {y : Int} {d b : List Int} (s : St n L y d b) (hr : ∀ i : Int, 0 ≤ i → i < n → 0 ≤ rd d i) (nx) : ∀ (m : Nat) (x : Int) (acc : List Int) (j : Nat), 0 ≤ x → x < n → rd d x < m → acc.length + m ≤ 1000 → m < j →
    f11_l5 (ρ := ρ) k j x y b acc nx = nx.1 (((), ()), (acc ++ path b y m x, ()))
  | 0, x, acc, j, h0, h1, h2, _, _ => by have := hr x h0 h1; omega
  | m + 1, x, acc, j, h0, h1, h2, h3, hj => by
    obtain ⟨j, rfl⟩ : ∃ q, j = q + 1 := ⟨j - 1, by omega⟩
    have hbl := s.bl
    simp only [f11_l5, path]
    by_cases e : x = y
    · rw [if_pos e, List.append_nil, show (x != y) = false by simpa using e, cond_false]
    · rw [if_neg e, show (x != y) = true by simpa using e, cond_true]
      obtain ⟨p0, p1, p2, p3⟩ := s.par x h0 h1 e (hr x h0 h1)
      have ih := path_loop (ρ := ρ) k s hr nx m (rd b x) (acc ++ [rd b x]) j p0 p1 (by omega) (by simp only [List.length_append, List.length_cons, List.length_nil]; omega) (by omega)
      rw [bn h0 (by omega), cond_true, at_rd h0 (by omega), Option.bind_some, roomy_ok (by simp only [List.length_cons, List.length_nil]; omega) (by omega), cond_true, ih, List.append_assoc]
      rfl

theorem way_ev {n : Nat} {L : List S71} (hv : vT (n : Int) L = true) {k : Nat} (hk : 1100 ≤ k) {x y : Int} (x0 : 0 ≤ x) (x1 : x < n) (y0 : 0 ≤ y) (y1 : y < n) : f11 k (n : Int) L x y = some (((), ()), (x :: path (tab n L y).2 y 400 x, ())) := by
  obtain ⟨m, e, h0, h1, hl, hL, _, hr⟩ := vT_out hv
  obtain rfl : n = m := by omega
  have d := tab_done n L y y0 y1 hL
  have b := d.st.bnd x x0 x1
  have w := fun nx => path_loop (ρ := (Unit × Unit) × ((List Int) × Unit)) k d.st (all_reach n L 0 y (by omega) (by omega) y0 y1 hL hr) nx 400 x [x] k x0 x1 (by omega) (by simp) (by omega)
  unfold f11
  rw [valid_ev hv hk, Option.bind_some]
  simp only [Bool.not_true, cond_false, node_ev h1 L x0 x1 k, node_ev h1 L y0 y1 k, Option.bind_some]
  rw [far_ev h1 (by omega) y0 y1 hL hk, Option.bind_some]
  simp only []
  rw [w]
  rfl
end Go.Proofs.YtkimeoknckohfaaDoor.R
