/- The search for packings: both programs find the same one, with the same work. -/
import Derived.Test.YtmckbecegiegaaaATreeSpot
import Derived.Test.YtmckbecegiegaaaAx7
import Derived.Test.YtmckbecegiegaaaAx15
namespace Go.Proofs.YtmckbecegiegaaaAT
open Go.RowKit Go.Proofs.Ytmckbecegiegaaa.A Go.Proofs.YtmckbecegiegaaaW.PrintWords Go.Proofs.YtmckbecegiegaaaM

/-- The spots in their order. -/
def pt (m i : Nat) : S37 := ⟨((i / (m + 1) : Nat) : Int), ((i % (m + 1) : Nat) : Int)⟩
def okP (D : List (List Int)) (sp : List S37) (p : S37) : Bool := rowOk D (sp ++ [p]) sp.length sp.length 0

/-- One leaf's spots, the last d of them; f: the leaves behind it. None: the work is used up. -/
def goI (f : List S37 → Nat → Option (Option (List S37) × Nat)) (D : List (List Int)) (m T : Nat) : Nat → List S37 → Nat → Option (Option (List S37) × Nat)
  | 0, _, left => some (none, left)
  | _ + 1, _, 0 => none
  | d + 1, sp, left + 1 =>
    if okP D sp (pt m (T - (d + 1))) = true then
      match f (sp ++ [pt m (T - (d + 1))]) left with
      | none => none
      | some (some z, l) => some (some z, l)
      | some (none, l) => goI f D m T d sp l
    else goI f D m T d sp left
def go (D : List (List Int)) (m : Nat) : Nat → List S37 → Nat → Option (Option (List S37) × Nat)
  | 0, sp, left => some (some sp, left)
  | r + 1, sp, left => goI (go D m r) D m ((m + 1) * (m + 1)) ((m + 1) * (m + 1)) sp left

theorem goI_le {f : List S37 → Nat → Option (Option (List S37) × Nat)} (hf : ∀ sp left x l, f sp left = some (x, l) → l ≤ left) (D : List (List Int)) (m T : Nat) : ∀ (d : Nat) (sp : List S37) (left : Nat) (x : Option (List S37)) (l : Nat), goI f D m T d sp left = some (x, l) → l ≤ left
  | 0, sp, left, x, l, h => by simp only [goI, Option.some.injEq, Prod.mk.injEq] at h; omega
  | d + 1, sp, 0, x, l, h => by simp [goI] at h
  | d + 1, sp, left + 1, x, l, h => by
    simp only [goI] at h
    split at h
    · split at h
      · cases h
      · rename_i z l' e
        have := hf _ _ _ _ e
        simp only [Option.some.injEq, Prod.mk.injEq] at h
        omega
      · rename_i l' e
        have := hf _ _ _ _ e
        have := goI_le hf D m T d sp l' x l h
        omega
    · have := goI_le hf D m T d sp left x l h
      omega
theorem go_le (D : List (List Int)) (m : Nat) : ∀ (r : Nat) (sp : List S37) (left : Nat) (x : Option (List S37)) (l : Nat), go D m r sp left = some (x, l) → l ≤ left
  | 0, sp, left, x, l, h => by simp only [go, Option.some.injEq, Prod.mk.injEq] at h; omega
  | r + 1, sp, left, x, l, h => goI_le (go_le D m r) D m _ _ sp left x l h

theorem pt_in (m i : Nat) (h : i < (m + 1) * (m + 1)) : inb (m : Int) (pt m i) = true := by
  have h1 : i / (m + 1) < m + 1 := Nat.div_lt_of_lt_mul h
  have h2 : i % (m + 1) < m + 1 := Nat.mod_lt _ (by omega)
  unfold inb pt
  generalize i / (m + 1) = a at *
  generalize i % (m + 1) = b at *
  simp only [Bool.and_eq_true, decide_eq_true_iff]
  omega

/-- What the search of the program comes to. -/
def implR (work : Nat) (sp : List S37) : Option (Option (List S37) × Nat) → Bool × Int × List S37 → Prop
  | none, R => ∃ z, R = (true, (work : Int) + 1, z)
  | some (some z, l), R => R = (true, (work : Int) - l, z)
  | some (none, l), R => R = (false, (work : Int) - l, sp)

structure Cfg (D : List (List Int)) (m work : Nat) : Prop where
  l : D.length ≤ 16
  r : ∀ i : Nat, i < D.length → (rd_L2 D (i : Int)).length = D.length
  m : m ≤ 40
  w : work ≤ 20000

theorem sq_le {m : Nat} (h : m ≤ 40) : (m + 1) * (m + 1) ≤ 41 * 41 := Nat.mul_le_mul (by omega) (by omega)

theorem tdivN (i m : Nat) (hm : m ≤ 40) (hi : i ≤ 41 * 41) : wrap64 (Int.tdiv (i : Int) (wrap64 ((m : Int) + 1))) = ((i / (m + 1) : Nat) : Int) := by
  have h : i / (m + 1) ≤ i := Nat.div_le_self _ _
  have e : Int.tdiv (i : Int) ((m + 1 : Nat) : Int) = ((i / (m + 1) : Nat) : Int) := rfl
  rw [wnext m (by omega), e]
  generalize i / (m + 1) = a at *
  rw [w64 (by omega) (by omega)]
theorem tmodN (i m : Nat) (hm : m ≤ 40) : Int.tmod (i : Int) (wrap64 ((m : Int) + 1)) = ((i % (m + 1) : Nat) : Int) := by
  rw [wnext m (by omega)]; rfl

theorem ptw (m i : Nat) (hm : m ≤ 40) (hi : i ≤ 41 * 41) : (⟨wrap64 (Int.tdiv (i : Int) (wrap64 ((m : Int) + 1))), Int.tmod (i : Int) (wrap64 ((m : Int) + 1))⟩ : S37) = pt m i := by
  rw [tdivN i m hm hi, tmodN i m hm]; rfl
theorem nxT (T d : Nat) (h : d + 1 ≤ T) (hT : T ≤ 41 * 41) : wrap64 (((T - (d + 1) : Nat) : Int) + 1) = ((T - d : Nat) : Int) := by
  rw [wnext _ (by omega), show T - (d + 1) + 1 = T - d by omega]
theorem wkT (work left : Nat) (h : left + 1 ≤ work) (hw : work ≤ 20000) : wrap64 ((work : Int) - ((left + 1 : Nat) : Int) + 1) = (work : Int) - (left : Nat) := by rw [w64 (by omega) (by omega)]; omega
theorem nzT (m : Nat) (h : m ≤ 40) : ¬ wrap64 ((m : Int) + 1) = 0 := by rw [w64 (by omega) (by omega)]; omega

theorem impl_loop {D : List (List Int)} {m work : Nat} (c : Cfg D m work) (T : Nat) (hT : T ≤ 41 * 41) (hp : ∀ i, i < T → inb (m : Int) (pt m i) = true) (f : List S37 → Nat → Option (Option (List S37) × Nat)) (n : Nat) (hn : n < D.length)
    (hle : ∀ sp left x l, f sp left = some (x, l) → l ≤ left)
    (hf : ∀ (sp : List S37) (left : Nat), sp.length = n + 1 → (∀ j : Nat, j < sp.length → inb (m : Int) (rd_T37 sp (j : Int)) = true) → left ≤ work → ∃ R, implR work sp (f sp left) R ∧ Ev (fun k => impl_packer_search.f k D (m : Int) (work : Int) ((work : Int) - left) sp) R) :
    ∀ (d : Nat) (sp' sp : List S37) (left : Nat), d ≤ T → sp.length = n → n ≤ sp'.length → sp'.take n = sp → (∀ j : Nat, j < sp.length → inb (m : Int) (rd_T37 sp (j : Int)) = true) → left ≤ work →
    ∃ R, implR work sp (goI f D m T d sp left) R ∧ Ev (fun k => impl_packer_search.l0 k (n : Int) (T : Int) ((T - d : Nat) : Int) D (m : Int) (work : Int) ((work : Int) - left) sp') R
  | 0, sp', sp, left, hd, hsp, hn', ht, hin, hw => by
    have := c.l
    refine ⟨_, rfl, ev_succ ?_⟩
    simp only [impl_packer_search.l0, Nat.sub_zero, Int.toNat_natCast, ht]
    exact ev_neg (by omega) (ev_pos (by omega) (ev_pos (by omega) (Ev.now _)))
  | d + 1, sp', sp, 0, hd, hsp, hn', ht, hin, hw => by
    refine ⟨(true, (work : Int) + 1, sp'), ⟨sp', rfl⟩, ev_succ ?_⟩
    have := c.w
    simp only [impl_packer_search.l0]
    refine ev_pos (by omega) (ev_pos (by omega) ?_)
    rw [w64 (by omega) (by omega), show (work : Int) - ((0 : Nat) : Int) + 1 = work + 1 by omega]
    exact Ev.now _
  | d + 1, sp', sp, left + 1, hd, hsp, hn', ht, hin, hw => by
    have h1 := c.l; have h2 := c.w; have h3 := c.m
    have hpi := hp (T - (d + 1)) (by omega)
    have hin2 : ∀ j : Nat, j ≤ n → inb (m : Int) (rd_T37 (sp ++ [pt m (T - (d + 1))]) (j : Int)) = true := by
      intro j hj
      by_cases e : j = n
      · rw [e, ← hsp, rd68_last]; exact hpi
      · rw [rd68_app _ _ j (by omega)]; exact hin j (by omega)
    have next : ∀ (l : Nat) (sp2 : List S37), l ≤ work → n ≤ sp2.length → sp2.take n = sp → ∃ R, implR work sp (goI f D m T d sp l) R ∧ Ev (fun k => impl_packer_search.l0 k (n : Int) (T : Int) ((T - d : Nat) : Int) D (m : Int) (work : Int) ((work : Int) - l) sp2) R :=
      fun l sp2 hl h5 h6 => impl_loop c T hT hp f n hn hle hf d sp2 sp l (by omega) hsp h5 h6 hin hl
    -- what a round comes to
    have round : ∀ R, (Ev (fun k => if okP D sp (pt m (T - (d + 1))) = true then ((impl_packer_search.f k D (m : Int) (work : Int) ((work : Int) - (left : Nat)) (sp ++ [pt m (T - (d + 1))])).bind fun bt => (if bt.1 = true then (some (true, bt.2.1, bt.2.2)) else (impl_packer_search.l0 k (n : Int) (T : Int) ((T - d : Nat) : Int) D (m : Int) (work : Int) bt.2.1 bt.2.2))) else (impl_packer_search.l0 k (n : Int) (T : Int) ((T - d : Nat) : Int) D (m : Int) (work : Int) ((work : Int) - (left : Nat)) (sp ++ [pt m (T - (d + 1))]))) R) →
        Ev (fun k => impl_packer_search.l0 k (n : Int) (T : Int) ((T - (d + 1) : Nat) : Int) D (m : Int) (work : Int) ((work : Int) - ((left + 1 : Nat) : Int)) sp') R := by
      intro R hR
      have hA : Ev (fun k => impl_isApart.f k D (sp ++ [pt m (T - (d + 1))])) (okP D sp (pt m (T - (d + 1)))) := by
        have := apart_ev (m : Int) (by omega) D h1 c.r n hn (sp ++ [pt m (T - (d + 1))]) (by simp; omega) hin2
        unfold okP
        rw [hsp]
        exact this
      refine ev_succ ?_
      simp only [impl_packer_search.l0, ptw m (T - (d + 1)) h3 (by omega), nxT T d hd hT, wkT work left hw h2, Int.toNat_natCast, ht]
      exact ev_pos (by omega) (ev_neg (by omega) (ev_pos (by omega) (ev_pos (by omega) (ev_bindc rfl (ev_neg (nzT m h3) (ev_pos (by omega) (ev_bindc rfl (Ev.bind hA hR))))))))
    have lenp : (sp ++ [pt m (T - (d + 1))]).length = n + 1 := by simp; omega
    have tk : (sp ++ [pt m (T - (d + 1))]).take n = sp := by rw [← hsp]; simp
    have fin : ∀ j : Nat, j < (sp ++ [pt m (T - (d + 1))]).length → inb (m : Int) (rd_T37 (sp ++ [pt m (T - (d + 1))]) (j : Int)) = true := fun j hj => hin2 j (by omega)
    clear hin2 hpi
    simp only [goI]
    generalize pt m (T - (d + 1)) = p at *
    by_cases q : okP D sp p = true
    · simp only [if_pos q] at round ⊢
      obtain ⟨R, hR, eR⟩ := hf (sp ++ [p]) left lenp fin (by omega)
      cases hg : f (sp ++ [p]) left with
      | none =>
        rw [hg] at hR
        obtain ⟨z, rfl⟩ := hR
        exact ⟨_, ⟨z, rfl⟩, round _ (Ev.bind eR (ev_pos rfl (Ev.now _)))⟩
      | some g =>
        obtain ⟨x, l⟩ := g
        have hl := hle _ _ _ _ hg
        cases x with
        | some z =>
          rw [hg] at hR
          cases hR
          exact ⟨_, rfl, round _ (Ev.bind eR (ev_pos rfl (Ev.now _)))⟩
        | none =>
          rw [hg] at hR
          cases hR
          obtain ⟨R2, hR2, eR2⟩ := next l (sp ++ [p]) (by omega) (by omega) tk
          exact ⟨R2, hR2, round _ (Ev.bind eR (ev_neg (by simp) eR2))⟩
    · simp only [if_neg q] at round ⊢
      obtain ⟨R, hR, eR⟩ := next left (sp ++ [p]) (by omega) (by omega) tk
      exact ⟨R, hR, round _ eR⟩

theorem impl_search {D : List (List Int)} {m work : Nat} (c : Cfg D m work) : ∀ (r : Nat) (sp : List S37) (left : Nat), sp.length + r = D.length → (∀ j : Nat, j < sp.length → inb (m : Int) (rd_T37 sp (j : Int)) = true) → left ≤ work →
    ∃ R, implR work sp (go D m r sp left) R ∧ Ev (fun k => impl_packer_search.f k D (m : Int) (work : Int) ((work : Int) - left) sp) R
  | 0, sp, left, hr, hin, hw => by
    refine ⟨_, rfl, ev_succ ?_⟩
    simp only [impl_packer_search.f]
    exact ev_pos (by omega) (Ev.now _)
  | r + 1, sp, left, hr, hin, hw => by
    have h3 := c.m; have h4 := sq_le c.m
    have hT : wrap64 (wrap64 ((m : Int) + 1) * wrap64 ((m : Int) + 1)) = (((m + 1) * (m + 1) : Nat) : Int) := by
      rw [wnext m (by omega), ← Int.natCast_mul, w64 (by omega) (by omega)]
    obtain ⟨R, hR, eR⟩ := impl_loop c ((m + 1) * (m + 1)) h4 (pt_in m) (go D m r) sp.length (by omega) (go_le D m r) (fun sp2 left2 h5 h6 h7 => impl_search c r sp2 left2 (by omega) h6 h7) ((m + 1) * (m + 1)) sp sp left (Nat.le_refl _) rfl (Nat.le_refl _) (List.take_length ..) hin hw
    refine ⟨R, hR, ev_succ ?_⟩
    simp only [impl_packer_search.f, hT]
    rw [Nat.sub_self] at eR
    exact ev_neg (by omega) eR

/-- What the reference's search comes to. -/
def specR (sp : List S37) : Option (Option (List S37) × Nat) → Bool × Int × List S37 × Bool
  | none => (false, 0, sp, true)
  | some (some z, l) => (true, (l : Int), z, false)
  | some (none, l) => (false, (l : Int), sp, false)

theorem fits_loop (D : List (List Int)) (hl : D.length ≤ 16) (hD : ∀ i : Nat, i < D.length → (rd_L2 D (i : Int)).length = D.length) (sp : List S37) (hn : sp.length < D.length) (s left : Int) (o : Bool) (p : S37) : ∀ (d j : Nat), j + d = sp.length →
    Ev (fun k => spec_l30Search_fits.l0 k (sp.length : Int) (j : Int) D s left sp o p.f0 p.f1) (rowOk D (sp ++ [p]) sp.length d j)
  | 0, j, hj => by
    refine ev_succ ?_
    simp only [spec_l30Search_fits.l0, rowOk]
    exact ev_neg (by omega) (Ev.now _)
  | d + 1, j, hj => by
    have hr := hD sp.length hn
    refine ev_succ ?_
    simp only [spec_l30Search_fits.l0, spec_l30Square.f, Option.bind_some, wnext j (by omega)]
    refine ev_pos (by omega) (ev_pos (by omega) (ev_pos (by omega) (ev_pos (by omega) (ev_pos (by omega) (ev_pos (by omega) ?_)))))
    have e1 := rd68_last sp p
    have e2 := rd68_app sp [p] j (by omega)
    by_cases q : sq p (rd_T37 sp (j : Int)) < wrap64 (rd (rd_L2 D (sp.length : Int)) (j : Int) * rd (rd_L2 D (sp.length : Int)) (j : Int))
    · refine ev_pos q ?_
      rw [rowOk, if_pos (by rw [e1, e2]; exact q)]
      exact Ev.now _
    · refine ev_neg q ?_
      rw [rowOk, if_neg (by rw [e1, e2]; exact q)]
      exact fits_loop D hl hD sp hn s left o p d (j + 1) (by omega)

theorem fits_ev (D : List (List Int)) (hl : D.length ≤ 16) (hD : ∀ i : Nat, i < D.length → (rd_L2 D (i : Int)).length = D.length) (sp : List S37) (hn : sp.length < D.length) (s left : Int) (o : Bool) (x y : Int) :
    Ev (fun k => spec_l30Search_fits.f k D s left sp o x y) (okP D sp ⟨x, y⟩) :=
  fits_loop D hl hD sp hn s left o ⟨x, y⟩ sp.length 0 (by omega)

theorem pt_xy (m x y : Nat) (h : y ≤ m) : pt m (x * (m + 1) + y) = ⟨(x : Int), (y : Int)⟩ := by
  have e1 : (x * (m + 1) + y) / (m + 1) = x := by
    rw [Nat.mul_comm, Nat.mul_add_div (by omega), Nat.div_eq_of_lt (by omega)]; rfl
  have e2 : (x * (m + 1) + y) % (m + 1) = y := by
    rw [Nat.mul_comm, Nat.mul_add_mod, Nat.mod_eq_of_lt (by omega)]
  unfold pt
  rw [e1, e2]

theorem spec_loop {D : List (List Int)} {m work : Nat} (c : Cfg D m work) (f : List S37 → Nat → Option (Option (List S37) × Nat)) (n : Nat) (hn : n < D.length)
    (hle : ∀ sp left x l, f sp left = some (x, l) → l ≤ left)
    (hf : ∀ (sp : List S37) (left : Nat), sp.length = n + 1 → left ≤ work → Ev (fun k => spec_l30Search_next.f k D (m : Int) (left : Int) sp false) (specR sp (f sp left))) :
    ∀ (d x y : Nat) (sp : List S37) (left : Nat), x * (m + 1) + y + d = (m + 1) * (m + 1) → y ≤ m → x ≤ m → sp.length = n → left ≤ work →
    Ev (fun k => spec_l30Search_next.l1 k (x : Int) (y : Int) D (m : Int) (left : Int) sp false) (specR sp (goI f D m ((m + 1) * (m + 1)) d sp left))
  | 0, x, y, sp, left, hd, hy, hx, hsp, hw => by
    have : (x + 1) * (m + 1) ≤ (m + 1) * (m + 1) := Nat.mul_le_mul_right _ (by omega)
    have e : (x + 1) * (m + 1) = x * (m + 1) + (m + 1) := Nat.succ_mul _ _
    omega
  | d + 1, x, y, sp, 0, hd, hy, hx, hsp, hw => by
    refine ev_succ ?_
    simp only [spec_l30Search_next.l1, goI, specR]
    exact ev_pos (by omega) (ev_pos (by omega) (Ev.now _))
  | d + 1, x, y, sp, left + 1, hd, hy, hx, hsp, hw => by
    have h1 := c.l; have h2 := c.w; have h3 := c.m
    have hi : (m + 1) * (m + 1) - (d + 1) = x * (m + 1) + y := by omega
    have hp : pt m ((m + 1) * (m + 1) - (d + 1)) = ⟨(x : Int), (y : Int)⟩ := by rw [hi]; exact pt_xy m x y hy
    -- the next spot
    have next : ∀ (l : Nat), l ≤ work → Ev (fun k => spec_l30Search_next.l1 k (x : Int) ((y + 1 : Nat) : Int) D (m : Int) (l : Int) sp false) (specR sp (goI f D m ((m + 1) * (m + 1)) d sp l)) := by
      intro l hl
      by_cases q : y + 1 ≤ m
      · exact spec_loop c f n hn hle hf d x (y + 1) sp l (by omega) q hx hsp hl
      · have e : (x + 1) * (m + 1) = x * (m + 1) + (m + 1) := Nat.succ_mul _ _
        refine ev_succ ?_
        simp only [spec_l30Search_next.l1]
        refine ev_neg (by omega) (ev_succ ?_)
        simp only [spec_l30Search_next.l0, wnext x (by omega)]
        by_cases q2 : x + 1 ≤ m
        · exact ev_pos (by omega) (spec_loop c f n hn hle hf d (x + 1) 0 sp l (by omega) (by omega) q2 hsp hl)
        · have e2 : x = m := by omega
          subst e2
          have e3 : d = 0 := by omega
          subst e3
          refine ev_neg (by omega) ?_
          simp only [goI, specR]
          exact Ev.now _
    have hst : wrap64 (((left + 1 : Nat) : Int) - 1) = (left : Int) := by rw [w64 (by omega) (by omega)]; omega
    refine ev_succ ?_
    simp only [spec_l30Search_next.l1, hst, wnext y (by omega)]
    refine ev_pos (by omega) (ev_neg (by omega) (Ev.bind (fits_ev D h1 c.r sp (by omega) _ _ _ _ _) ?_))
    simp only [goI, hp]
    generalize hP : (⟨(x : Int), (y : Int)⟩ : S37) = p
    by_cases q : okP D sp p = true
    · refine ev_pos q ?_
      simp only [if_pos q]
      refine ev_pos (by omega) ?_
      have eR := hf (sp ++ [p]) left (by simp; omega) (by omega)
      have hlen : ((sp ++ [p]).length : Int) = (sp.length : Int) + 1 := by simp
      have hw1 : wrap64 ((sp.length : Int) + 1 - 1) = (sp.length : Int) := by rw [w64 (by omega) (by omega)]; omega
      cases hg : f (sp ++ [p]) left with
      | none =>
        rw [hg] at eR
        refine Ev.bind eR ?_
        simp only [specR, hlen, hw1]
        refine ev_neg (by simp) (ev_pos (by omega) (ev_pos (by omega) ?_))
        simp only [Option.bind_some, Int.toNat_natCast, List.take_left]
        exact ev_pos trivial (Ev.now _)
      | some g =>
        obtain ⟨z, l⟩ := g
        have hl := hle _ _ _ _ hg
        rw [hg] at eR
        cases z with
        | some z =>
          refine Ev.bind eR ?_
          simp only [specR]
          exact ev_pos trivial (Ev.now _)
        | none =>
          refine Ev.bind eR ?_
          simp only [specR, hlen, hw1]
          refine ev_neg (by simp) (ev_pos (by omega) (ev_pos (by omega) ?_))
          simp only [Option.bind_some, Int.toNat_natCast, List.take_left]
          exact ev_neg (by simp) (next l (by omega))
    · refine ev_neg q ?_
      simp only [if_neg q]
      exact next left (by omega)

theorem spec_search {D : List (List Int)} {m work : Nat} (c : Cfg D m work) : ∀ (r : Nat) (sp : List S37) (left : Nat), sp.length + r = D.length → left ≤ work →
    Ev (fun k => spec_l30Search_next.f k D (m : Int) (left : Int) sp false) (specR sp (go D m r sp left))
  | 0, sp, left, hr, hw => by
    refine ev_succ ?_
    simp only [spec_l30Search_next.f, go, specR]
    exact ev_pos (by omega) (Ev.now _)
  | r + 1, sp, left, hr, hw => by
    refine ev_succ ?_
    simp only [spec_l30Search_next.f]
    refine ev_neg (by omega) (ev_succ ?_)
    simp only [spec_l30Search_next.l0]
    refine ev_pos (by omega) ?_
    exact spec_loop c (go D m r) sp.length (by omega) (go_le D m r) (fun sp2 left2 h5 h7 => spec_search c r sp2 left2 (by omega) h7) _ 0 0 sp left (by omega) (by omega) (by omega) rfl hw

/-- What is found, and its code. -/
def firstR (work : Nat) : Option (Option (List S37) × Nat) → List S37 × Int × Int
  | none => ([], 0, 10)
  | some (some z, l) => (z, (work : Int) - l, 0)
  | some (none, _) => ([], 0, 3)
def firstN (n : Nat) (L : List S75) (m work : Nat) : List S37 × Int × Int := firstR work (go (distOf n L (leavesL n L)) m (leavesL n L).length [] work)

theorem cfg (n : Nat) (hn : n ≤ 16) (L : List S75) (m work : Nat) (hm : m ≤ 40) (hw : work ≤ 20000) : Cfg (distOf n L (leavesL n L)) m work := by
  have h1 := leavesL_len n L
  have h2 := distOf_len n L (leavesL n L)
  exact ⟨by omega, fun i hi => by rw [h2] at hi ⊢; exact distOf_row n L _ i hi, hm, hw⟩

theorem impl_first (n : Nat) (hn : n ≤ 16) (L : List S75) (hl : L.length ≤ 1048576) (hL : ∀ e ∈ L, GE n e) (m work : Nat) (hm : m ≤ 40) (hw : work ≤ 20000) : Ev (fun k => impl_firstPacking.f k (n : Int) L (m : Int) (work : Int)) (firstN n L m work) := by
  have h2 := distOf_len n L (leavesL n L)
  unfold impl_firstPacking.f firstN
  refine Ev.bind (impl_dists n hn L hl hL) ?_
  obtain ⟨R, hR, eR⟩ := impl_search (cfg n hn L m work hm hw) (leavesL n L).length [] work (by simp; omega) (fun j h => absurd h (Nat.not_lt_zero _)) (Nat.le_refl _)
  have hle := go_le (distOf n L (leavesL n L)) m (leavesL n L).length [] work
  rw [show (work : Int) - (work : Nat) = 0 by omega] at eR
  refine Ev.bind eR ?_
  generalize go (distOf n L (leavesL n L)) m (leavesL n L).length [] work = G at *
  match G, hR, hle with
  | none, hR, _ =>
    obtain ⟨z, rfl⟩ := hR
    exact ev_pos (by simp only; omega) (Ev.now _)
  | some (some z, l), hR, hle =>
    have := hle _ _ rfl
    cases hR
    exact ev_neg (by simp only; omega) (ev_pos rfl (Ev.now _))
  | some (none, l), hR, hle =>
    have := hle _ _ rfl
    cases hR
    exact ev_neg (by simp only; omega) (ev_neg (by simp) (Ev.now _))

theorem spec_first (n : Nat) (hn : n ≤ 16) (L : List S75) (hl : L.length ≤ 1048576) (hL : ∀ e ∈ L, GE n e) (m work : Nat) (hm : m ≤ 40) (hw : work ≤ 20000) : Ev (fun k => spec_l30First.f k (n : Int) L (m : Int) (work : Int)) (firstN n L m work) := by
  have h2 := distOf_len n L (leavesL n L)
  unfold spec_l30First.f firstN
  refine Ev.bind (spec_dists n hn L hl hL) ?_
  have eR := spec_search (cfg n hn L m work hm hw) (leavesL n L).length [] work (by simp; omega) (Nat.le_refl _)
  have hle := go_le (distOf n L (leavesL n L)) m (leavesL n L).length [] work
  refine Ev.bind eR ?_
  generalize go (distOf n L (leavesL n L)) m (leavesL n L).length [] work = G at *
  match G, hle with
  | none, _ => exact ev_neg (by simp [specR]) (ev_pos rfl (Ev.now _))
  | some (some z, l), hle =>
    have := hle _ _ rfl
    simp only [specR, firstR]
    rw [w64 (by omega) (by omega)]
    exact ev_pos trivial (Ev.now _)
  | some (none, l), hle => exact ev_neg (by simp [specR]) (ev_neg (by simp [specR]) (Ev.now _))

end Go.Proofs.YtmckbecegiegaaaAT
