/- All solutions are found, in order, each once, and nothing else. -/
import Derived.Test.YtiilgicmdnllbaaR1SvK
import Derived.Test.YtiilgicmdnllbaaR1SvM
namespace Go.Proofs.Ytiilgicmdnllbaa.R
open Go.Proofs.Ytiilgicmdnllbaa.R1

theorem solve_same : @f9a = @f9 := by kernel_rfl

theorem valid_of {v : Nat} (h2 : v ≤ 9) {rs : List Ru} (hl : rs.length ≤ 22) (hr : ∀ r ∈ rs, vr (v : Int) r = true) : valid rs (v : Int) = true := by
  unfold valid vrs
  rw [dle (show (0 : Int) ≤ (v : Int) by omega), dle (show (v : Int) ≤ 200 by omega), dle (show (rs.length : Int) ≤ 3000 by omega), List.all_eq_true.2 hr]; rfl

theorem budget_5000 (k : Nat) : f40 k 5000 = some ((true, ()), ()) := by
  unfold f40; rw [impl_in]; rfl

theorem lens_of {n : Nat} {rs : List Ru} (hR : ∀ r ∈ rs, Rok n r) {k : Nat} (hk : 5 ≤ k) : ∀ r ∈ rs, lens k r := fun r hr => by
  have := hR r hr
  have h1 := this.lv; have h2 := this.k4; have h3 := this.ls
  exact ⟨by omega, by omega⟩

theorem solve_run {rs : List Ru} {n : Int} (hv : valid rs n = true) : ∃ (n1 : Int) (F : List (List Int)) (b : Bool), F.length ≤ 100 ∧ Srch n.toNat rs 5000 100 0 (List.replicate n.toNat 0) 0 b n1 F ∧ ∀ k, 4000 ≤ k → k ≤ 4611686018427387904 →
    f9 k rs n 5000 100 = some (bif decide (n1 > 5000) then (((), 0, 10, ()), ([], ())) else (((), n1, 0, ()), (F, ()))) := by
  obtain ⟨r1, r2, r3, r4⟩ := roks_of hv
  obtain ⟨n1, F, ⟨f1, b, f4⟩, f2, f3⟩ := solve_pair hv (B := 5000) (by omega) (by omega) (M := 100) (by omega) (by omega)
  refine ⟨n1, F, b, f1, f4, fun k hk hk2 => ?_⟩
  obtain ⟨_, g2⟩ := f3 k hk
  have g3 : f42 k rs n 5000 100 = _ := g2
  unfold f9
  rw [impl_valid k rs n hk2 (by omega) (lens_of r4 (by omega)), hv]
  simp only [Option.bind_some, Bool.not_true, cond_false, budget_5000, impl_in]
  rw [show (decide ((1 : Int) ≤ 100) && decide ((100 : Int) ≤ 100)) = true from rfl]
  simp only [Option.bind_some, Bool.not_true, cond_false, g3, f43]
  cases decide (n1 > 5000) <;> rfl

theorem first_run {rs : List Ru} {n : Int} (hv : valid rs n = true) : ∃ (n1 : Int) (F : List (List Int)) (b : Bool), Srch n.toNat rs 5000 1 0 (List.replicate n.toNat 0) 0 b n1 F ∧ ∀ k, 4000 ≤ k → k ≤ 4611686018427387904 → n1 ≤ 5000 →
    f14 k rs n 5000 = some (match F with
      | [] => (((), 8, ()), ([], ()))
      | x :: _ => (((), 0, ()), (x, ()))) := by
  obtain ⟨r1, r2, r3, r4⟩ := roks_of hv
  obtain ⟨n1, F, ⟨f1, b, f4⟩, f2, f3⟩ := solve_pair hv (B := 5000) (by omega) (by omega) (M := 1) (by omega) (by omega)
  refine ⟨n1, F, b, f4, fun k hk hk2 hn => ?_⟩
  obtain ⟨_, g2⟩ := f3 k hk
  have g3 : f42 k rs n 5000 1 = _ := g2
  unfold f14 f53
  rw [impl_valid k rs n hk2 (by omega) (lens_of r4 (by omega)), hv]
  simp only [Option.bind_some, Bool.not_true, cond_false, budget_5000, g3, f43]
  rw [show decide (n1 > 5000) = false from decide_eq_false (by omega)]
  cases F with
  | nil => rfl
  | cons x F =>
    have hne : ((((x :: F).length : Nat) : Int) == 0) = false := by rw [beq_eq_false_iff_ne, List.length_cons]; omega
    have hin : (decide (0 ≤ (0 : Nat)) && decide ((0 : Int) < (((x :: F).length : Nat) : Int))) = true := by
      rw [dlt (show (0 : Int) < (((x :: F).length : Nat) : Int) by rw [List.length_cons]; omega)]; rfl
    simp only [cond_false, hne, hin]
    rfl

theorem vals_true {k : Nat} (l : List Int) (hl : ∀ x ∈ l, x = -1 ∨ x = 0 ∨ x = 1) (hk : l.length < k) (h2 : l.length < 4611686018427387904) : f45 k l = some ((true, ()), ()) := by
  have loop : ∀ (rest : List Int) (i : Nat), l.drop i = rest → ∀ j, rest.length < j → f45_l2 (ρ := (Bool × Unit) × Unit) k j l (i : Int) (fun x7 : (Unit × Unit) => some ((true, ()), ()), fun x8 : ((Bool × Unit) × Unit) => some ((x8.1.1, ()), ()), ()) = some ((true, ()), ()) := by
    intro rest
    induction rest with
    | nil =>
      intro i h j hj
      obtain ⟨j, rfl⟩ : ∃ q, j = q + 1 := ⟨j - 1, by simp at hj; omega⟩
      simp only [f45_l2, out_nil h, cond_false]
    | cons x rest ih =>
      intro i h j hj
      obtain ⟨j, rfl⟩ : ∃ q, j = q + 1 := ⟨j - 1, by simp at hj; omega⟩
      have hlt := lt_cons h
      have hx := hl x (List.mem_of_getElem? (at_cons h))
      have hb : (decide (-1 ≤ x) && decide (x ≤ 1)) = true := by rw [dle (by omega), dle (by omega)]; rfl
      simp only [f45_l2, in_cons h, cond_true, getI_cons h, Option.bind_some, spec_in, hb, Bool.not_true, cond_false, wr_succ (show i < 4611686018427387904 by omega)]
      exact ih (i + 1) (next_cons h) j (by simpa using hj)
  unfold f45
  exact loop l 0 rfl k hk

theorem has_no {k : Nat} (l : List Int) (hl : ∀ x ∈ l, x ≠ 0) (hk : l.length < k) (h2 : l.length < 4611686018427387904) : f46 k l 0 = some ((false, ()), ()) := by
  have loop : ∀ (rest : List Int) (i : Nat), l.drop i = rest → ∀ j, rest.length < j → f46_l2 (ρ := (Bool × Unit) × Unit) k j l 0 (i : Int) (fun x7 : (Unit × Unit) => some ((false, ()), ()), fun x8 : ((Bool × Unit) × Unit) => some ((x8.1.1, ()), ()), ()) = some ((false, ()), ()) := by
    intro rest
    induction rest with
    | nil =>
      intro i h j hj
      obtain ⟨j, rfl⟩ : ∃ q, j = q + 1 := ⟨j - 1, by simp at hj; omega⟩
      simp only [f46_l2, out_nil h, cond_false]
    | cons x rest ih =>
      intro i h j hj
      obtain ⟨j, rfl⟩ : ∃ q, j = q + 1 := ⟨j - 1, by simp at hj; omega⟩
      have hlt := lt_cons h
      have hx := hl x (List.mem_of_getElem? (at_cons h))
      have hb : (x == 0) = false := beq_eq_false_iff_ne.2 hx
      simp only [f46_l2, in_cons h, cond_true, getI_cons h, Option.bind_some, hb, cond_false, wr_succ (show i < 4611686018427387904 by omega)]
      exact ih (i + 1) (next_cons h) j (by simpa using hj)
  unfold f46
  exact loop l 0 rfl k hk

/-- Whether all rules hold. -/
def holdAll (rs : List Ru) (x : List Int) : Bool := rs.all fun r => !decide (hold r x < 0)

theorem holdAll_cons {r : Ru} {rs : List Ru} {x : List Int} : holdAll (r :: rs) x = (!decide (hold r x < 0) && holdAll rs x) := rfl

theorem spec_sol_loop {ρ : Type} {k n : Nat} (hk : 5 ≤ k) (rs : List Ru) (hR : ∀ r ∈ rs, Rok n r) (hl : rs.length < 4611686018427387904) (x : List Int) (hx : Vok n x) (nx) : ∀ (rest : List Ru) (i : Nat), rs.drop i = rest → ∀ j, rest.length < j →
    f10_l4 (ρ := ρ) k j rs x (i : Int) nx = bif holdAll rest x then nx.1 ((), ()) else nx.2.1 ((false, ()), ())
  | [], i, h, j, hj => by
    obtain ⟨j, rfl⟩ : ∃ q, j = q + 1 := ⟨j - 1, by simp at hj; omega⟩
    simp only [f10_l4, out_nil h, cond_false]; rfl
  | r :: rest, i, h, j, hj => by
    obtain ⟨j, rfl⟩ : ∃ q, j = q + 1 := ⟨j - 1, by simp at hj; omega⟩
    have hlt := lt_cons h
    have hr := hR r (List.mem_of_getElem? (at_cons h))
    simp only [f10_l4, in_cons h, cond_true, getI_cons h, Option.bind_some, spec_hold hk hx hr, wr_succ (show i < 4611686018427387904 by omega), holdAll_cons]
    cases decide (hold r x < 0) with
    | true => rfl
    | false => exact spec_sol_loop hk rs hR hl x hx nx rest (i + 1) (next_cons h) j (by simpa using hj)

theorem spec_sol {k : Nat} (hk : 4000 ≤ k) (hk2 : k ≤ 4611686018427387904) {rs : List Ru} {n : Nat} (hv : valid rs (n : Int) = true) {x : List Int} (hx : Sol n rs x) : f10 k rs (n : Int) x = some ((true, ()), ()) := by
  obtain ⟨r1, r2, r3, r4⟩ := roks_of hv
  rw [Int.toNat_natCast] at r4
  unfold f10
  rw [spec_valid k rs n hk2 (by omega) (lens_of r4 (by omega)), hv]
  have hl := hx.v.l
  have hz : ∀ y ∈ x, y ≠ 0 := fun y hy => by
    obtain ⟨i, hi, e⟩ := List.getElem_of_mem hy
    have := hx.z (i : Int) (by omega) (by omega)
    rw [vat_nat (List.getElem?_eq_getElem hi), e] at this
    exact this
  have hh : holdAll rs x = true := List.all_eq_true.2 fun r hr => by
    have := hx.h r hr
    rw [dnlt this]; rfl
  simp only [Option.bind_some, Bool.not_true, cond_false, hl, bne_self_int, vals_true (k := k) x hx.v.t (by omega) (by omega), has_no (k := k) x hz (by omega) (by omega)]
  refine (spec_sol_loop (k := k) (n := n) (by omega) rs r4 (by omega) x hx.v _ rs 0 rfl k (by omega)).trans ?_
  rw [hh]; rfl

theorem impl_sol_loop {ρ : Type} {k n : Nat} (hk : 5 ≤ k) (rs : List Ru) (hR : ∀ r ∈ rs, Rok n r) (hl : rs.length < 4611686018427387904) (x : List Int) (hx : Vok n x) (nx) : ∀ (rest : List Ru) (i : Nat), rs.drop i = rest → ∀ j, rest.length < j →
    ∃ m : Nat, f79a_l2 (ρ := ρ) k j rs x (rs.length : Int) (i : Int) nx = bif holdAll rest x then nx.1 ((), ()) else nx.2.1 (((m : Int), ()), ())
  | [], i, h, j, hj => by
    obtain ⟨j, rfl⟩ : ∃ q, j = q + 1 := ⟨j - 1, by simp at hj; omega⟩
    exact ⟨0, by simp only [f79a_l2, out_nil h, cond_false]; rfl⟩
  | r :: rest, i, h, j, hj => by
    obtain ⟨j, rfl⟩ : ∃ q, j = q + 1 := ⟨j - 1, by simp at hj; omega⟩
    have hlt := lt_cons h
    have hr := hR r (List.mem_of_getElem? (at_cons h))
    obtain ⟨m, ih⟩ := impl_sol_loop (ρ := ρ) hk rs hR hl x hx nx rest (i + 1) (next_cons h) j (by simpa using hj)
    simp only [f79a_l2, in_cons h, cond_true, getI_cons h, Option.bind_some, f51, impl_hold hk hx hr, wr_succ (show i < 4611686018427387904 by omega), holdAll_cons]
    cases decide (hold r x < 0) with
    | true => exact ⟨i, rfl⟩
    | false => exact ⟨m, ih⟩

theorem impl_sol {k : Nat} (hk : 4000 ≤ k) (hk2 : k ≤ 4611686018427387904) {rs : List Ru} {n : Nat} (hv : valid rs (n : Int) = true) {x : List Int} (hl : x.length = n) (hx : ∀ y ∈ x, y = 1 ∨ y = -1) : f13 k rs (n : Int) x = some ((holdAll rs x, ()), ()) := by
  obtain ⟨r1, r2, r3, r4⟩ := roks_of hv
  rw [Int.toNat_natCast] at r4
  unfold f13
  rw [impl_valid k rs n hk2 (by omega) (lens_of r4 (by omega)), hv]
  simp only [Option.bind_some, cond_true, f48, hl, beq_self_eq_true, impl_un k x (by omega) (by omega), un_of hx]
  unfold f50a f79a
  obtain ⟨m, e⟩ := impl_sol_loop (k := k) (by omega) rs r4 (by omega) x ⟨hl, fun y hy => by have := hx y hy; omega⟩ (fun (_ : Unit × Unit) => some (((-1 : Int), ()), ()), fun (x10 : (Int × Unit) × Unit) => some ((x10.1.1, ()), ()), ()) rs 0 rfl k (by omega)
  rw [show (0 : Int) = ((0 : Nat) : Int) from rfl, e]
  cases holdAll rs x with
  | true => rfl
  | false =>
    simp only [cond_false, Option.bind_some]
    rw [show decide ((m : Int) ≥ ((0 : Nat) : Int)) = true from decide_eq_true (by omega)]; rfl

theorem same_eq {k : Nat} (a b : List Int) (hk : a.length < k) (h2 : a.length < 4611686018427387904) : f12 k a b = some ((decide (a = b), ()), ()) := by
  unfold f12
  by_cases hl : a.length = b.length
  · have loop : ∀ (rest : List Int) (i : Nat), a.drop i = rest → ∀ j, rest.length < j → f12_l4 (ρ := (Bool × Unit) × Unit) k j a b (i : Int) (fun x8 : (Unit × Unit) => some ((true, ()), ()), fun x9 : ((Bool × Unit) × Unit) => some ((x9.1.1, ()), ()), ()) = some ((decide (rest = b.drop i), ()), ()) := by
      intro rest
      induction rest with
      | nil =>
        intro i h j hj
        obtain ⟨j, rfl⟩ : ∃ q, j = q + 1 := ⟨j - 1, by simp at hj; omega⟩
        simp only [f12_l4, out_nil h, cond_false]
        have := ge_nil h
        rw [List.drop_of_length_le (by omega)]; rfl
      | cons x rest ih =>
        intro i h j hj
        obtain ⟨j, rfl⟩ : ∃ q, j = q + 1 := ⟨j - 1, by simp at hj; omega⟩
        have hlt := lt_cons h
        have hb := List.getElem?_eq_getElem (l := b) (i := i) (by omega)
        have hd : b.drop i = b[i]'(by omega) :: b.drop (i + 1) := List.drop_eq_getElem_cons (by omega)
        simp only [f12_l4, in_cons h, cond_true, getI_cons h, Option.bind_some, getI_nat, hb, wr_succ (show i < 4611686018427387904 by omega)]
        by_cases e : x = b[i]'(by omega)
        · rw [show (x != b[i]'(by omega)) = false by rw [e]; exact bne_self_int _]
          simp only [cond_false]
          rw [ih (i + 1) (next_cons h) j (by simpa using hj)]
          rw [show decide (x :: rest = b.drop i) = decide (rest = b.drop (i + 1)) from by
            rw [decide_eq_decide, hd, e]
            exact ⟨fun h => (List.cons.inj h).2, fun h => by rw [h]⟩]
        · rw [show (x != b[i]'(by omega)) = true from bne_iff_ne.2 e]
          rw [show decide (x :: rest = b.drop i) = false from decide_eq_false fun q => e (List.cons.inj (q.trans hd)).1]
          rfl
    rw [show (((a.length : Nat) : Int) != ((b.length : Nat) : Int)) = false by simp [hl]]
    exact loop a 0 rfl k hk
  · rw [show (((a.length : Nat) : Int) != ((b.length : Nat) : Int)) = true by simp; omega]
    rw [show decide (a = b) = false from decide_eq_false fun e => hl (by rw [e])]
    rfl

theorem before_eq {k n : Nat} {a b : List Int} (ha : a.length = n) (hb : b.length = n) (h : before n a b) (hk : n < k) (h2 : n < 4611686018427387904) : f11 k a b = some ((true, ()), ()) := by
  obtain ⟨d, hd, h3, h4⟩ := h
  have loop : ∀ (m i : Nat), i + m = d → ∀ j, m < j → f11_l2 (ρ := (Bool × Unit) × Unit) k j a b (i : Int) (fun x10 : (Unit × Unit) => some ((false, ()), ()), fun x11 : ((Bool × Unit) × Unit) => some ((x11.1.1, ()), ()), ()) = some ((true, ()), ()) := by
    intro m
    induction m with
    | zero =>
      intro i hi j hj
      obtain ⟨j, rfl⟩ : ∃ q, j = q + 1 := ⟨j - 1, by omega⟩
      obtain rfl : i = d := by omega
      have e1 := vat_get ha hd
      have e2 := vat_get hb hd
      simp only [f11_l2, dlt (show (i : Int) < (a.length : Int) by omega), dlt (show (i : Int) < (b.length : Int) by omega), cond_true, getI_nat, e1, e2, Option.bind_some]
      rw [show (vat a (i : Int) != vat b (i : Int)) = true by simp; omega]
      simp only [cond_true]
      rw [show decide (vat a (i : Int) > vat b (i : Int)) = true from decide_eq_true h4]
    | succ m ih =>
      intro i hi j hj
      obtain ⟨j, rfl⟩ : ∃ q, j = q + 1 := ⟨j - 1, by omega⟩
      have e1 := vat_get ha (v := i) (by omega)
      have e2 := vat_get hb (v := i) (by omega)
      simp only [f11_l2, dlt (show (i : Int) < (a.length : Int) by omega), dlt (show (i : Int) < (b.length : Int) by omega), cond_true, getI_nat, e1, e2, Option.bind_some, h3 i (by omega), bne_self_int, cond_false, wr_succ (show i < 4611686018427387904 by omega)]
      exact ih (i + 1) (by omega) j (by omega)
  unfold f11
  exact loop d 0 (by omega) k (by omega)

theorem j13_eq {ρ : Type} {k : Nat} (rs : List Ru) (n : Int) (st : Int) (fnd : Bool) {i : Nat} (full : List Int) (F : List (List Int)) {x : List Int} (hx : F[i]? = some x) (hk : x.length < k) (h2 : x.length < 4611686018427387904) (nx) :
    f3_j13 (ρ := ρ) k rs n st fnd (i : Int) full F nx = nx.1 ((rs, n, (), (), st, fnd || decide (x = full), (i : Int), ()), (full, F, ())) := by
  have hi : i < F.length := by
    rcases Nat.lt_or_ge i F.length with q | q
    · exact q
    · rw [List.getElem?_eq_none q] at hx; cases hx
  unfold f3_j13
  cases fnd with
  | true => rfl
  | false =>
    simp only [cond_false, bnd hi, cond_true, Int.toNat_natCast, hx, Option.bind_some, same_eq x full hk h2, Bool.false_or]

theorem check_loop {ρ : Type} {k n : Nat} (hk : 4000 ≤ k) (hk2 : k ≤ 4611686018427387904) {rs : List Ru} (hv : valid rs (n : Int) = true) (F : List (List Int)) (hF : F.length ≤ 100) (hS : ∀ x ∈ F, Sol n rs x) (hO : F.Pairwise (before n)) (hn : n ≤ 200) (st : Int) (full : List Int) (nx) : ∀ (rest : List (List Int)) (i : Nat), F.drop i = rest → ∀ j, rest.length < j → ∀ fnd : Bool,
    f3_l9 (ρ := ρ) k j rs (n : Int) st fnd (i : Int) full F nx = nx.1 ((rs, (n : Int), (), (), st, fnd || rest.any (fun x => decide (x = full)), ()), (full, F, ()))
  | [], i, h, j, hj, fnd => by
    obtain ⟨j, rfl⟩ : ∃ q, j = q + 1 := ⟨j - 1, by simp at hj; omega⟩
    simp only [f3_l9, out_nil h, cond_false, List.any_nil, Bool.or_false]
  | x :: rest, i, h, j, hj, fnd => by
    obtain ⟨j, rfl⟩ : ∃ q, j = q + 1 := ⟨j - 1, by simp at hj; omega⟩
    have hlt := lt_cons h
    have hat := at_cons h
    have hx := hS x (List.mem_of_getElem? hat)
    have hxl := hx.v.l
    have hw := wr_succ (show i < 4611686018427387904 by omega)
    have ih := check_loop (ρ := ρ) hk hk2 hv F hF hS hO hn st full nx rest (i + 1) (next_cons h) j (by simpa using hj) (fnd || decide (x = full))
    have j13 := fun nx => j13_eq (ρ := ρ) (k := k) rs (n : Int) st fnd full F hat (by omega) (by omega) nx
    simp only [f3_l9, in_cons h, bnd hlt, cond_true, Int.toNat_natCast, hat, Option.bind_some, spec_sol hk hk2 hv hx, Bool.not_true, cond_false, List.any_cons]
    cases i with
    | zero =>
      rw [show decide (((0 : Nat) : Int) > 0) = false from rfl]
      simp only [cond_false]
      refine (j13 _).trans ?_
      simp only [hw]
      rw [ih, Bool.or_assoc]
    | succ i =>
      have hp := List.getElem?_eq_getElem (l := F) (i := i) (by omega)
      have hpm := hS _ (List.mem_of_getElem? hp)
      have hbf : before n (F[i]'(by omega)) x := by
        have e : F[i + 1]'hlt = x := Option.some.inj ((List.getElem?_eq_getElem hlt).symm.trans hat)
        rw [← e]
        exact List.pairwise_iff_getElem.1 hO i (i + 1) (by omega) hlt (by omega)
      rw [show decide (((i + 1 : Nat) : Int) > 0) = true from decide_eq_true (by omega)]
      have hm : wr .i64 (((i + 1 : Nat) : Int) - 1) = (i : Int) := by rw [wr_id (by omega) (by omega)]; omega
      simp only [cond_true, hm, bnd (show i < F.length by omega), Int.toNat_natCast, hp, Option.bind_some, before_eq hpm.v.l hxl hbf (show n < k by omega) (by omega), Bool.not_true, cond_false]
      refine (j13 _).trans ?_
      simp only [hw]
      rw [ih, Bool.or_assoc]

theorem ok_bytes {l : List Int} (h : Ok (.sl (.int .u8)) l) : Bytes l := fun x hx => by
  have := h.2 x hx
  have h1 : (Lit.int IntKind.u8 x).wf = true := this
  simp [Lit.wf, IntKind.min, IntKind.max, IntKind.bits, IntKind.signed] at h1
  omega

theorem solveAll_law (code : List Int) (ho : Ok (.sl (.int .u8)) code) : f3 KK code = some ((true, ()), ()) := by
  unfold f3
  by_cases hc : (code.length : Int) > 1048576
  · rw [show decide ((code.length : Int) > 1048576) = true from decide_eq_true hc]; rfl
  · rw [show decide ((code.length : Int) > 1048576) = false from decide_eq_false hc]
    obtain ⟨v, rs, full, v1, v2, r1, r2, f1, f2, e⟩ := draw_all (ok_bytes ho) (by omega)
    have hv := valid_of v2 r1 r2
    obtain ⟨_, _, _, hR⟩ := roks_of hv
    obtain ⟨n1, F, b, hF, hs, es⟩ := solve_run hv
    obtain ⟨n2, G, b2, hs2, es2⟩ := first_run hv
    rw [Int.toNat_natCast] at hR hs hs2
    have z := zeros_ok v
    have S := srch_sem hR hs z
    have S2 := srch_sem hR hs2 z
    have hless := (srch_less hR hs2 rfl z hs).2
    have hk : 4000 ≤ KK := by unfold KK; omega
    have hk2 : KK ≤ 4611686018427387904 := by unfold KK; omega
    have es' := es KK hk hk2
    have es2' := es2 KK hk hk2
    have hext : ∀ x, Ext v (List.replicate v 0) x := fun x u u0 u1 q => by
      refine absurd ?_ q
      have := vat_get (a := List.replicate v (0 : Int)) (n := v) (by simp) (v := u.toNat) (by omega)
      rw [List.getElem?_replicate, if_pos (by omega), show ((u.toNat : Nat) : Int) = u by omega] at this
      exact (Option.some.inj this).symm
    have loop := fun nx => check_loop (ρ := (Bool × Unit) × Unit) hk hk2 hv F hF (fun x hx => (S.s x hx).1) S.o (by omega) n1 full nx F 0 rfl KK (by unfold KK; omega) false
    have hfull := impl_sol hk hk2 hv f1 f2
    have hsame := fun a b h => same_eq (k := KK) a b h
    clear es es2
    generalize hKK : KK = K at *
    simp only [cond_false, e, Option.bind_some, solve_same, es']
    by_cases hn : n1 > 5000
    · rw [show decide (n1 > 5000) = true from decide_eq_true hn]; rfl
    · rw [show decide (n1 > 5000) = false from decide_eq_false hn]
      simp only [cond_false]
      rw [show ((0 : Int) != 0) = false from rfl]
      simp only [cond_false]
      refine (loop _).trans ?_
      simp only [Bool.false_or]
      have es3 := es2' (by omega)
      have n0 := S.n
      have hsteps : decide (n1 > 0) = true := decide_eq_true (by omega)
      -- the last question
      have last : ∀ {ρ : Type} (nx), f3_j16 (ρ := ρ) K rs (v : Int) n1 F nx = nx.1 ((true, ()), ()) := by
        intro ρ nx
        unfold f3_j16
        rw [es3]
        cases F with
        | nil =>
          have hG : G = [] := by
            cases G with
            | nil => rfl
            | cons g G =>
              have hg := (S2.s g (List.mem_cons.2 (.inl rfl))).1
              rcases S.a g hg (hext g) with q | ⟨q, _⟩
              · cases q
              · rcases S.f q with q | q
                · omega
                · simp at q
          subst hG
          simp only [Option.bind_some]
          rw [show ((((([] : List (List Int)).length : Nat) : Int)) == 0) = true from rfl, show ((8 : Int) == 8) = true from rfl]
          simp only [cond_true, hsteps]
        | cons x F =>
          have hx := (S.s x (List.mem_cons.2 (.inl rfl))).1
          have hG : ∃ G', G = x :: G' := by
            cases G with
            | nil =>
              rcases S2.a x hx (hext x) with q | ⟨q, _⟩
              · cases q
              · rcases S2.f q with q | q
                · omega
                · simp at q
            | cons g G =>
              have hg := (S2.s g (List.mem_cons.2 (.inl rfl))).1
              refine ⟨G, ?_⟩
              refine Classical.byContradiction fun ne => ?_
              have ne : g ≠ x := fun e => ne (by rw [e])
              have gx : before v g x := by
                rcases S2.a x hx (hext x) with q | ⟨_, q⟩
                · rcases List.mem_cons.1 q with q | q
                  · exact absurd q.symm ne
                  · exact (List.pairwise_cons.1 S2.o).1 x q
                · exact q g (List.mem_cons.2 (.inl rfl))
              have xg : before v x g := by
                rcases S.a g hg (hext g) with q | ⟨_, q⟩
                · rcases List.mem_cons.1 q with q | q
                  · exact absurd q ne
                  · exact (List.pairwise_cons.1 S.o).1 g q
                · exact q x (List.mem_cons.2 (.inl rfl))
              exact before_asymm gx xg
          obtain ⟨G', rfl⟩ := hG
          have hxl := hx.v.l
          simp only [Option.bind_some]
          rw [show ((((x :: F).length : Nat) : Int) == 0) = false by rw [beq_eq_false_iff_ne, List.length_cons]; omega, show ((0 : Int) == 0) = true from rfl]
          have hin : (decide (0 ≤ (0 : Nat)) && decide ((0 : Int) < (((x :: F).length : Nat) : Int))) = true := by
            rw [dlt (show (0 : Int) < (((x :: F).length : Nat) : Int) by rw [List.length_cons]; omega)]; rfl
          simp only [cond_false, cond_true, hin]
          rw [show (x :: F)[0]? = some x from rfl, Option.bind_some, hsame x x (by omega) (by omega), Option.bind_some, show decide (x = x) = true from decide_eq_true rfl]
          simp only [cond_true, hsteps]
      cases hl : decide ((F.length : Int) < 100) with
      | false =>
        simp only [cond_false]
        exact last _
      | true =>
        have hl := of_decide_eq_true hl
        simp only [cond_true, hfull, Option.bind_some]
        have hany : F.any (fun x => decide (x = full)) = holdAll rs full := by
          rw [Bool.eq_iff_iff, List.any_eq_true]
          constructor
          · rintro ⟨x, hx, q⟩
            have q := of_decide_eq_true q
            subst q
            exact List.all_eq_true.2 fun r hr => by rw [dnlt ((S.s x hx).1.h r hr)]; rfl
          · intro q
            have hsol : Sol v rs full := ⟨⟨f1, fun y hy => by have := f2 y hy; omega⟩, fun u u0 u1 => by
              have := vat_get f1 (v := u.toNat) (by omega)
              rw [show ((u.toNat : Nat) : Int) = u by omega] at this
              have := f2 _ (List.mem_of_getElem? this)
              omega, fun r hr => by
              have := List.all_eq_true.1 q r hr
              by_cases k : hold r full < 0
              · rw [dlt k] at this; cases this
              · omega⟩
            rcases S.a full hsol (hext full) with k | ⟨k, _⟩
            · exact ⟨full, k, decide_eq_true rfl⟩
            · rcases S.f k with k | k
              · omega
              · omega
        rw [hany]
        rw [show (holdAll rs full == holdAll rs full) = true from beq_self_eq_true _]
        simp only [Bool.not_true, cond_false]
        exact last _
end Go.Proofs.Ytiilgicmdnllbaa.R
