/- The search for packings: what the program finds. -/
import Derived.Test.YtmckbecegiegaaaATreeSpot
import Derived.Test.YtmckbecegiegaaaAx7
namespace Go.Proofs.YtmckbecegiegaaaAT
open Go.RowKit Go.Proofs.Ytmckbecegiegaaa.A Go.Proofs.YtmckbecegiegaaaW.PrintWords Go.Proofs.YtmckbecegiegaaaM

/-- The spots in their order. -/
def pt (m i : Nat) : S37 := ⟨((i / (m + 1) : Nat) : Int), ((i % (m + 1) : Nat) : Int)⟩
def okP (D : List (List Int)) (sp : List S37) (p : S37) : Bool := rowOk D (sp ++ [p]) sp.length sp.length 0

/-- One leaf's spots, the last d of them; f: the leaves behind it. None: the work is used up. -/
def goI (f : List S37 → Nat → Option (Option (List S37) × Nat)) (D : List (List Int)) (m T : Nat) : Nat → List S37 → Nat → Option (Option (List S37) × Nat)
  | 0, _, left => some (none, left)
  | _ + 1, _, 0 => none
  | d + 1, sp, left + 1 =>
    if okP D sp (pt m (T - (d + 1))) = true then
      match f (sp ++ [pt m (T - (d + 1))]) left with
      | none => none
      | some (some z, l) => some (some z, l)
      | some (none, l) => goI f D m T d sp l
    else goI f D m T d sp left
def go (D : List (List Int)) (m : Nat) : Nat → List S37 → Nat → Option (Option (List S37) × Nat)
  | 0, sp, left => some (some sp, left)
  | r + 1, sp, left => goI (go D m r) D m ((m + 1) * (m + 1)) ((m + 1) * (m + 1)) sp left

theorem goI_le {f : List S37 → Nat → Option (Option (List S37) × Nat)} (hf : ∀ sp left x l, f sp left = some (x, l) → l ≤ left) (D : List (List Int)) (m T : Nat) : ∀ (d : Nat) (sp : List S37) (left : Nat) (x : Option (List S37)) (l : Nat), goI f D m T d sp left = some (x, l) → l ≤ left
  | 0, sp, left, x, l, h => by simp only [goI, Option.some.injEq, Prod.mk.injEq] at h; omega
  | d + 1, sp, 0, x, l, h => by simp [goI] at h
  | d + 1, sp, left + 1, x, l, h => by
    simp only [goI] at h
    split at h
    · split at h
      · cases h
      · rename_i z l' e
        have := hf _ _ _ _ e
        simp only [Option.some.injEq, Prod.mk.injEq] at h
        omega
      · rename_i l' e
        have := hf _ _ _ _ e
        have := goI_le hf D m T d sp l' x l h
        omega
    · have := goI_le hf D m T d sp left x l h
      omega
theorem go_le (D : List (List Int)) (m : Nat) : ∀ (r : Nat) (sp : List S37) (left : Nat) (x : Option (List S37)) (l : Nat), go D m r sp left = some (x, l) → l ≤ left
  | 0, sp, left, x, l, h => by simp only [go, Option.some.injEq, Prod.mk.injEq] at h; omega
  | r + 1, sp, left, x, l, h => goI_le (go_le D m r) D m _ _ sp left x l h

theorem pt_in (m i : Nat) (h : i < (m + 1) * (m + 1)) : inb (m : Int) (pt m i) = true := by
  have h1 : i / (m + 1) < m + 1 := Nat.div_lt_of_lt_mul h
  have h2 : i % (m + 1) < m + 1 := Nat.mod_lt _ (by omega)
  unfold inb pt
  generalize i / (m + 1) = a at *
  generalize i % (m + 1) = b at *
  simp only [Bool.and_eq_true, decide_eq_true_iff]
  omega

/-- What the search of the program comes to. -/
def implR (work : Nat) (sp : List S37) : Option (Option (List S37) × Nat) → Bool × Int × List S37 → Prop
  | none, R => ∃ z, R = (true, (work : Int) + 1, z)
  | some (some z, l), R => R = (true, (work : Int) - l, z)
  | some (none, l), R => R = (false, (work : Int) - l, sp)

structure Cfg (D : List (List Int)) (m work : Nat) : Prop where
  l : D.length ≤ 16
  r : ∀ i : Nat, i < D.length → (rd_L2 D (i : Int)).length = D.length
  m : m ≤ 40
  w : work ≤ 20000

theorem sq_le {m : Nat} (h : m ≤ 40) : (m + 1) * (m + 1) ≤ 41 * 41 := Nat.mul_le_mul (by omega) (by omega)

theorem tdivN (i m : Nat) (hm : m ≤ 40) (hi : i ≤ 41 * 41) : wrap64 (Int.tdiv (i : Int) (wrap64 ((m : Int) + 1))) = ((i / (m + 1) : Nat) : Int) := by
  have h : i / (m + 1) ≤ i := Nat.div_le_self _ _
  have e : Int.tdiv (i : Int) ((m + 1 : Nat) : Int) = ((i / (m + 1) : Nat) : Int) := rfl
  rw [wnext m (by omega), e]
  generalize i / (m + 1) = a at *
  rw [w64 (by omega) (by omega)]
theorem tmodN (i m : Nat) (hm : m ≤ 40) : Int.tmod (i : Int) (wrap64 ((m : Int) + 1)) = ((i % (m + 1) : Nat) : Int) := by
  rw [wnext m (by omega)]; rfl

theorem ptw (m i : Nat) (hm : m ≤ 40) (hi : i ≤ 41 * 41) : (⟨wrap64 (Int.tdiv (i : Int) (wrap64 ((m : Int) + 1))), Int.tmod (i : Int) (wrap64 ((m : Int) + 1))⟩ : S37) = pt m i := by
  rw [tdivN i m hm hi, tmodN i m hm]; rfl
theorem nxT (T d : Nat) (h : d + 1 ≤ T) (hT : T ≤ 41 * 41) : wrap64 (((T - (d + 1) : Nat) : Int) + 1) = ((T - d : Nat) : Int) := by
  rw [wnext _ (by omega), show T - (d + 1) + 1 = T - d by omega]
theorem wkT (work left : Nat) (h : left + 1 ≤ work) (hw : work ≤ 20000) : wrap64 ((work : Int) - ((left + 1 : Nat) : Int) + 1) = (work : Int) - (left : Nat) := by rw [w64 (by omega) (by omega)]; omega
theorem nzT (m : Nat) (h : m ≤ 40) : ¬ wrap64 ((m : Int) + 1) = 0 := by rw [w64 (by omega) (by omega)]; omega

theorem impl_loop {D : List (List Int)} {m work : Nat} (c : Cfg D m work) (T : Nat) (hT : T ≤ 41 * 41) (hp : ∀ i, i < T → inb (m : Int) (pt m i) = true) (f : List S37 → Nat → Option (Option (List S37) × Nat)) (n : Nat) (hn : n < D.length)
    (hle : ∀ sp left x l, f sp left = some (x, l) → l ≤ left)
    (hf : ∀ (sp : List S37) (left : Nat), sp.length = n + 1 → (∀ j : Nat, j < sp.length → inb (m : Int) (rd_T37 sp (j : Int)) = true) → left ≤ work → ∃ R, implR work sp (f sp left) R ∧ Ev (fun k => impl_packer_search.f k D (m : Int) (work : Int) ((work : Int) - left) sp) R) :
    ∀ (d : Nat) (sp' sp : List S37) (left : Nat), d ≤ T → sp.length = n → n ≤ sp'.length → sp'.take n = sp → (∀ j : Nat, j < sp.length → inb (m : Int) (rd_T37 sp (j : Int)) = true) → left ≤ work →
    ∃ R, implR work sp (goI f D m T d sp left) R ∧ Ev (fun k => impl_packer_search.l0 k (n : Int) (T : Int) ((T - d : Nat) : Int) D (m : Int) (work : Int) ((work : Int) - left) sp') R
  | 0, sp', sp, left, hd, hsp, hn', ht, hin, hw => by
    have := c.l
    refine ⟨_, rfl, ev_succ ?_⟩
    simp only [impl_packer_search.l0, Nat.sub_zero, Int.toNat_natCast, ht]
    exact ev_neg (by omega) (ev_pos (by omega) (ev_pos (by omega) (Ev.now _)))
  | d + 1, sp', sp, 0, hd, hsp, hn', ht, hin, hw => by
    refine ⟨(true, (work : Int) + 1, sp'), ⟨sp', rfl⟩, ev_succ ?_⟩
    have := c.w
    simp only [impl_packer_search.l0]
    refine ev_pos (by omega) (ev_pos (by omega) ?_)
    rw [w64 (by omega) (by omega), show (work : Int) - ((0 : Nat) : Int) + 1 = work + 1 by omega]
    exact Ev.now _
  | d + 1, sp', sp, left + 1, hd, hsp, hn', ht, hin, hw => by
    have h1 := c.l; have h2 := c.w; have h3 := c.m
    have hpi := hp (T - (d + 1)) (by omega)
    have hin2 : ∀ j : Nat, j ≤ n → inb (m : Int) (rd_T37 (sp ++ [pt m (T - (d + 1))]) (j : Int)) = true := by
      intro j hj
      by_cases e : j = n
      · rw [e, ← hsp, rd68_last]; exact hpi
      · rw [rd68_app _ _ j (by omega)]; exact hin j (by omega)
    have next : ∀ (l : Nat) (sp2 : List S37), l ≤ work → n ≤ sp2.length → sp2.take n = sp → ∃ R, implR work sp (goI f D m T d sp l) R ∧ Ev (fun k => impl_packer_search.l0 k (n : Int) (T : Int) ((T - d : Nat) : Int) D (m : Int) (work : Int) ((work : Int) - l) sp2) R :=
      fun l sp2 hl h5 h6 => impl_loop c T hT hp f n hn hle hf d sp2 sp l (by omega) hsp h5 h6 hin hl
    -- what a round comes to
    have round : ∀ R, (Ev (fun k => if okP D sp (pt m (T - (d + 1))) = true then ((impl_packer_search.f k D (m : Int) (work : Int) ((work : Int) - (left : Nat)) (sp ++ [pt m (T - (d + 1))])).bind fun bt => (if bt.1 = true then (some (true, bt.2.1, bt.2.2)) else (impl_packer_search.l0 k (n : Int) (T : Int) ((T - d : Nat) : Int) D (m : Int) (work : Int) bt.2.1 bt.2.2))) else (impl_packer_search.l0 k (n : Int) (T : Int) ((T - d : Nat) : Int) D (m : Int) (work : Int) ((work : Int) - (left : Nat)) (sp ++ [pt m (T - (d + 1))]))) R) →
        Ev (fun k => impl_packer_search.l0 k (n : Int) (T : Int) ((T - (d + 1) : Nat) : Int) D (m : Int) (work : Int) ((work : Int) - ((left + 1 : Nat) : Int)) sp') R := by
      intro R hR
      have hA : Ev (fun k => impl_isApart.f k D (sp ++ [pt m (T - (d + 1))])) (okP D sp (pt m (T - (d + 1)))) := by
        have := apart_ev (m : Int) (by omega) D h1 c.r n hn (sp ++ [pt m (T - (d + 1))]) (by simp; omega) hin2
        unfold okP
        rw [hsp]
        exact this
      refine ev_succ ?_
      simp only [impl_packer_search.l0, ptw m (T - (d + 1)) h3 (by omega), nxT T d hd hT, wkT work left hw h2, Int.toNat_natCast, ht]
      exact ev_pos (by omega) (ev_neg (by omega) (ev_pos (by omega) (ev_pos (by omega) (ev_bindc rfl (ev_neg (nzT m h3) (ev_pos (by omega) (ev_bindc rfl (Ev.bind hA hR))))))))
    have lenp : (sp ++ [pt m (T - (d + 1))]).length = n + 1 := by simp; omega
    have tk : (sp ++ [pt m (T - (d + 1))]).take n = sp := by rw [← hsp]; simp
    have fin : ∀ j : Nat, j < (sp ++ [pt m (T - (d + 1))]).length → inb (m : Int) (rd_T37 (sp ++ [pt m (T - (d + 1))]) (j : Int)) = true := fun j hj => hin2 j (by omega)
    clear hin2 hpi
    simp only [goI]
    generalize pt m (T - (d + 1)) = p at *
    by_cases q : okP D sp p = true
    · simp only [if_pos q] at round ⊢
      obtain ⟨R, hR, eR⟩ := hf (sp ++ [p]) left lenp fin (by omega)
      cases hg : f (sp ++ [p]) left with
      | none =>
        rw [hg] at hR
        obtain ⟨z, rfl⟩ := hR
        exact ⟨_, ⟨z, rfl⟩, round _ (Ev.bind eR (ev_pos rfl (Ev.now _)))⟩
      | some g =>
        obtain ⟨x, l⟩ := g
        have hl := hle _ _ _ _ hg
        cases x with
        | some z =>
          rw [hg] at hR
          cases hR
          exact ⟨_, rfl, round _ (Ev.bind eR (ev_pos rfl (Ev.now _)))⟩
        | none =>
          rw [hg] at hR
          cases hR
          obtain ⟨R2, hR2, eR2⟩ := next l (sp ++ [p]) (by omega) (by omega) tk
          exact ⟨R2, hR2, round _ (Ev.bind eR (ev_neg (by simp) eR2))⟩
    · simp only [if_neg q] at round ⊢
      obtain ⟨R, hR, eR⟩ := next left (sp ++ [p]) (by omega) (by omega) tk
      exact ⟨R, hR, round _ eR⟩

theorem impl_search {D : List (List Int)} {m work : Nat} (c : Cfg D m work) : ∀ (r : Nat) (sp : List S37) (left : Nat), sp.length + r = D.length → (∀ j : Nat, j < sp.length → inb (m : Int) (rd_T37 sp (j : Int)) = true) → left ≤ work →
    ∃ R, implR work sp (go D m r sp left) R ∧ Ev (fun k => impl_packer_search.f k D (m : Int) (work : Int) ((work : Int) - left) sp) R
  | 0, sp, left, hr, hin, hw => by
    refine ⟨_, rfl, ev_succ ?_⟩
    simp only [impl_packer_search.f]
    exact ev_pos (by omega) (Ev.now _)
  | r + 1, sp, left, hr, hin, hw => by
    have h3 := c.m; have h4 := sq_le c.m
    have hT : wrap64 (wrap64 ((m : Int) + 1) * wrap64 ((m : Int) + 1)) = (((m + 1) * (m + 1) : Nat) : Int) := by
      rw [wnext m (by omega), ← Int.natCast_mul, w64 (by omega) (by omega)]
    obtain ⟨R, hR, eR⟩ := impl_loop c ((m + 1) * (m + 1)) h4 (pt_in m) (go D m r) sp.length (by omega) (go_le D m r) (fun sp2 left2 h5 h6 h7 => impl_search c r sp2 left2 (by omega) h6 h7) ((m + 1) * (m + 1)) sp sp left (Nat.le_refl _) rfl (Nat.le_refl _) (List.take_length ..) hin hw
    refine ⟨R, hR, ev_succ ?_⟩
    simp only [impl_packer_search.f, hT]
    rw [Nat.sub_self] at eR
    exact ev_neg (by omega) eR

/-- What is found, and its code. -/
def firstR (work : Nat) : Option (Option (List S37) × Nat) → List S37 × Int × Int
  | none => ([], 0, 10)
  | some (some z, l) => (z, (work : Int) - l, 0)
  | some (none, _) => ([], 0, 3)
def firstN (n : Nat) (L : List S75) (m work : Nat) : List S37 × Int × Int := firstR work (go (distOf n L (leavesL n L)) m (leavesL n L).length [] work)

theorem cfg (n : Nat) (hn : n ≤ 16) (L : List S75) (m work : Nat) (hm : m ≤ 40) (hw : work ≤ 20000) : Cfg (distOf n L (leavesL n L)) m work := by
  have h1 := leavesL_len n L
  have h2 := distOf_len n L (leavesL n L)
  exact ⟨by omega, fun i hi => by rw [h2] at hi ⊢; exact distOf_row n L _ i hi, hm, hw⟩

theorem impl_first (n : Nat) (hn : n ≤ 16) (L : List S75) (hl : L.length ≤ 1048576) (hL : ∀ e ∈ L, GE n e) (m work : Nat) (hm : m ≤ 40) (hw : work ≤ 20000) : Ev (fun k => impl_firstPacking.f k (n : Int) L (m : Int) (work : Int)) (firstN n L m work) := by
  have h2 := distOf_len n L (leavesL n L)
  unfold impl_firstPacking.f firstN
  refine Ev.bind (impl_dists n hn L hl hL) ?_
  obtain ⟨R, hR, eR⟩ := impl_search (cfg n hn L m work hm hw) (leavesL n L).length [] work (by simp; omega) (fun j h => absurd h (Nat.not_lt_zero _)) (Nat.le_refl _)
  have hle := go_le (distOf n L (leavesL n L)) m (leavesL n L).length [] work
  rw [show (work : Int) - (work : Nat) = 0 by omega] at eR
  refine Ev.bind eR ?_
  generalize go (distOf n L (leavesL n L)) m (leavesL n L).length [] work = G at *
  match G, hR, hle with
  | none, hR, _ =>
    obtain ⟨z, rfl⟩ := hR
    exact ev_pos (by simp only; omega) (Ev.now _)
  | some (some z, l), hR, hle =>
    have := hle _ _ rfl
    cases hR
    exact ev_neg (by simp only; omega) (ev_pos rfl (Ev.now _))
  | some (none, l), hR, hle =>
    have := hle _ _ rfl
    cases hR
    exact ev_neg (by simp only; omega) (ev_neg (by simp) (Ev.now _))

end Go.Proofs.YtmckbecegiegaaaAT
