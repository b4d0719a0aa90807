/- Trees in plain words: distances, validity, their metric. -/
import Derived.Test.YtkimeoknckohfaaDoorR1F0
import Derived.Test.YtkimeoknckohfaaDoorR1Plain
namespace Go.Proofs.YtkimeoknckohfaaDoor.R
open Go.Proofs.YtkimeoknckohfaaDoor.R1

abbrev S71 := Int × (Int × Int)
@[reducible] def S71.f0 (e : S71) : Int := e.1
@[reducible] def S71.f1 (e : S71) : Int := e.2.1
@[reducible] def S71.f2 (e : S71) : Int := e.2.2
def rd (xs : List Int) (i : Int) : Int := xs.getD i.toNat 0
def rd_T71 (L : List S71) (i : Int) : S71 := L.getD i.toNat (0, 0, 0)
def rd_L6 (L : List (List Int)) (i : Int) : List Int := L.getD i.toNat []

theorem rd_set_eq (d : List Int) (i : Int) (v : Int) (h : i.toNat < d.length) : rd (d.set i.toNat v) i = v := by
  simp [rd, List.getD_eq_getElem?_getD, h]
theorem rd_set_ne (d : List Int) (i j : Int) (v : Int) (h0 : 0 ≤ i) (h1 : 0 ≤ j) (h : i ≠ j) : rd (d.set i.toNat v) j = rd d j := by
  have : i.toNat ≠ j.toNat := by omega
  simp [rd, List.getD_eq_getElem?_getD, List.getElem?_set_ne this]
theorem rd_set (d : List Int) (i j : Int) (v : Int) (h0 : 0 ≤ i) (h1 : 0 ≤ j) (h : i.toNat < d.length) : rd (d.set i.toNat v) j = if j = i then v else rd d j := by
  by_cases e : j = i
  · subst e; rw [if_pos rfl, rd_set_eq _ _ _ h]
  · rw [if_neg e, rd_set_ne _ _ _ _ h0 h1 (Ne.symm e)]

def neg (d : List Int) : Nat := d.countP (fun x => decide (x < 0))

theorem neg_set (d : List Int) (i : Int) (v : Int) (h : i.toNat < d.length) (hn : rd d i < 0) (hv : 0 ≤ v) : neg (d.set i.toNat v) + 1 = neg d := by
  have hp : d[i.toNat] < 0 := by simpa [rd, List.getD_eq_getElem?_getD, h] using hn
  have h1 : 0 < neg d := by
    unfold neg; exact List.countP_pos_iff.2 ⟨d[i.toNat], List.getElem_mem h, by simpa using hp⟩
  unfold neg at h1 ⊢
  rw [List.countP_set h]
  simp only [hp, decide_true, if_true]
  have : ¬ v < 0 := by omega
  simp only [this, decide_false, Bool.false_eq_true, if_false]
  omega

theorem neg_le (d : List Int) : neg d ≤ d.length := List.countP_le_length

/-- What a pass does at an edge. -/
def stp (s : List Int × List Int × Bool) (e : S71) : List Int × List Int × Bool :=
  if 0 ≤ rd s.1 e.f0 ∧ rd s.1 e.f1 < 0 then (s.1.set e.f1.toNat (rd s.1 e.f0 + e.f2), s.2.1.set e.f1.toNat e.f0, true)
  else if 0 ≤ rd s.1 e.f1 ∧ rd s.1 e.f0 < 0 then (s.1.set e.f0.toNat (rd s.1 e.f1 + e.f2), s.2.1.set e.f0.toNat e.f1, true)
  else s

/-- An edge of a tree with n nodes. -/
def GE (n : Nat) (e : S71) : Prop := 0 ≤ e.f0 ∧ e.f0 < e.f1 ∧ e.f1 < n ∧ 1 ≤ e.f2 ∧ e.f2 ≤ 20

structure St (n : Nat) (L : List S71) (r : Int) (d b : List Int) : Prop where
  dl : d.length = n
  bl : b.length = n
  val : ∀ i : Int, 0 ≤ i → i < n → rd d i = -1 ∨ 0 ≤ rd d i
  bnd : ∀ i : Int, 0 ≤ i → i < n → rd d i ≤ 20 * ((n : Int) - neg d)
  root : rd d r = 0
  par : ∀ i : Int, 0 ≤ i → i < n → i ≠ r → 0 ≤ rd d i → 0 ≤ rd b i ∧ rd b i < n ∧ 0 ≤ rd d (rd b i) ∧ rd d (rd b i) < rd d i
  min : ∀ C : Int → Prop, (∀ e ∈ L, (C e.f0 ↔ C e.f1)) → C r → ∀ i : Int, 0 ≤ i → i < n → 0 ≤ rd d i → C i

theorem St.set {n : Nat} {L : List S71} {r : Int} {d b : List Int} (s : St n L r d b) (x y len : Int) (hx0 : 0 ≤ x) (hx1 : x < n) (hy0 : 0 ≤ y) (hy1 : y < n) (hxy : x ≠ y)
    (hx : 0 ≤ rd d x) (hy : rd d y < 0) (hl0 : 1 ≤ len) (hl1 : len ≤ 20) (hr0 : 0 ≤ r)
    (hC : ∀ C : Int → Prop, (∀ e ∈ L, (C e.f0 ↔ C e.f1)) → C x → C y) :
    St n L r (d.set y.toNat (rd d x + len)) (b.set y.toNat x) ∧ neg (d.set y.toNat (rd d x + len)) + 1 = neg d := by
  have hyl : y.toNat < d.length := by rw [s.dl]; omega
  have hyb : y.toNat < b.length := by rw [s.bl]; omega
  have hneg := neg_set d y (rd d x + len) hyl hy (by omega)
  have hrd : ∀ i : Int, 0 ≤ i → rd (d.set y.toNat (rd d x + len)) i = if i = y then rd d x + len else rd d i := fun i hi => rd_set d y i _ hy0 hi hyl
  have hrb : ∀ i : Int, 0 ≤ i → rd (b.set y.toNat x) i = if i = y then x else rd b i := fun i hi => rd_set b y i _ hy0 hi hyb
  have hry : r ≠ y := fun e => by rw [← e, s.root] at hy; omega
  refine ⟨⟨by simp [s.dl], by simp [s.bl], ?_, ?_, ?_, ?_, ?_⟩, hneg⟩
  · intro i h0 h1
    rw [hrd i h0]
    split
    · right; omega
    · exact s.val i h0 h1
  · intro i h0 h1
    rw [hrd i h0]
    have := s.bnd i h0 h1
    have := s.bnd x hx0 hx1
    split <;> omega
  · rw [hrd r hr0, if_neg hry]; exact s.root
  · intro i h0 h1 hir
    rw [hrd i h0, hrb i h0]
    by_cases e : i = y
    · rw [if_pos e, if_pos e, hrd x hx0, if_neg hxy]
      intro _
      exact ⟨hx0, hx1, hx, by omega⟩
    · rw [if_neg e, if_neg e]
      intro h
      obtain ⟨p0, p1, p2, p3⟩ := s.par i h0 h1 hir h
      have hne : rd b i ≠ y := fun e2 => by rw [e2] at p2; omega
      rw [hrd _ p0, if_neg hne]
      exact ⟨p0, p1, p2, p3⟩
  · intro C hE hr i h0 h1
    rw [hrd i h0]
    by_cases e : i = y
    · intro _
      rw [e]
      exact hC C hE (s.min C hE hr x hx0 hx1 hx)
    · rw [if_neg e]
      exact s.min C hE hr i h0 h1

theorem stp_ok {n : Nat} {L : List S71} {r : Int} {d b : List Int} {c : Bool} (s : St n L r d b) (hr0 : 0 ≤ r) (e : S71) (he : e ∈ L) (g : GE n e) :
    St n L r (stp (d, b, c) e).1 (stp (d, b, c) e).2.1 ∧
      ((stp (d, b, c) e = (d, b, c) ∧ (0 ≤ rd d e.f0 ↔ 0 ≤ rd d e.f1)) ∨ (neg (stp (d, b, c) e).1 + 1 = neg d ∧ (stp (d, b, c) e).2.2 = true)) := by
  obtain ⟨g0, g1, g2, g3, g4⟩ := g
  unfold stp
  by_cases h : 0 ≤ rd d e.f0 ∧ rd d e.f1 < 0
  · rw [if_pos h]
    obtain ⟨k1, k2⟩ := s.set e.f0 e.f1 e.f2 (by omega) (by omega) (by omega) (by omega) (by omega) h.1 h.2 g3 g4 hr0 (fun C hE hx => (hE e he).1 hx)
    exact ⟨k1, .inr ⟨k2, rfl⟩⟩
  · rw [if_neg h]
    by_cases h' : 0 ≤ rd d e.f1 ∧ rd d e.f0 < 0
    · rw [if_pos h']
      obtain ⟨k1, k2⟩ := s.set e.f1 e.f0 e.f2 (by omega) (by omega) (by omega) (by omega) (by omega) h'.1 h'.2 g3 g4 hr0 (fun C hE hx => (hE e he).2 hx)
      exact ⟨k1, .inr ⟨k2, rfl⟩⟩
    · rw [if_neg h']
      refine ⟨s, .inl ⟨rfl, ?_⟩⟩
      constructor
      · intro a; by_cases q : 0 ≤ rd d e.f1
        · exact q
        · exact absurd ⟨a, by omega⟩ h
      · intro a; by_cases q : 0 ≤ rd d e.f0
        · exact q
        · exact absurd ⟨a, by omega⟩ h'

/-- A pass over some of the edges. -/
theorem pass_ok {n : Nat} {L : List S71} {r : Int} (hr0 : 0 ≤ r) : ∀ (M : List S71) (d b : List Int) (c : Bool), (∀ e ∈ M, e ∈ L ∧ GE n e) → St n L r d b →
    St n L r (M.foldl stp (d, b, c)).1 (M.foldl stp (d, b, c)).2.1 ∧
      ((M.foldl stp (d, b, c) = (d, b, c) ∧ ∀ e ∈ M, (0 ≤ rd d e.f0 ↔ 0 ≤ rd d e.f1)) ∨ (neg (M.foldl stp (d, b, c)).1 < neg d ∧ (M.foldl stp (d, b, c)).2.2 = true))
  | [], d, b, c, _, s => ⟨s, .inl ⟨rfl, fun e h => by cases h⟩⟩
  | e :: M, d, b, c, hM, s => by
    obtain ⟨k1, k2⟩ := stp_ok (c := c) s hr0 e (hM e List.mem_cons_self).1 (hM e List.mem_cons_self).2
    have hM' : ∀ e' ∈ M, e' ∈ L ∧ GE n e' := fun e' h => hM e' (List.mem_cons_of_mem _ h)
    simp only [List.foldl_cons]
    rcases k2 with ⟨k2, k3⟩ | ⟨k2, k3⟩
    · rw [k2]
      obtain ⟨i1, i2⟩ := pass_ok hr0 M d b c hM' s
      refine ⟨i1, ?_⟩
      rcases i2 with ⟨i2, i3⟩ | i2
      · left
        refine ⟨i2, fun e' h => ?_⟩
        rcases List.mem_cons.1 h with rfl | h
        · exact k3
        · exact i3 e' h
      · exact .inr i2
    · obtain ⟨d', b', c', hs⟩ : ∃ d' b' c', stp (d, b, c) e = (d', b', c') := ⟨_, _, _, rfl⟩
      rw [hs] at k1 k2 k3 ⊢
      simp only at k1 k2 k3
      subst k3
      obtain ⟨i1, i2⟩ := pass_ok hr0 M d' b' true hM' k1
      refine ⟨i1, .inr ?_⟩
      rcases i2 with ⟨i2, _⟩ | ⟨i2, i3⟩
      · rw [i2]; exact ⟨by simp only; omega, rfl⟩
      · exact ⟨by omega, i3⟩

/-- Passes until nothing changes (so many at the most). -/
def fin (L : List S71) : Nat → List Int → List Int → List Int × List Int
  | 0, d, b => (d, b)
  | m + 1, d, b => if (L.foldl stp (d, b, false)).2.2 = true then fin L m (L.foldl stp (d, b, false)).1 (L.foldl stp (d, b, false)).2.1 else (d, b)

structure Done (n : Nat) (L : List S71) (r : Int) (d b : List Int) : Prop where
  st : St n L r d b
  shut : ∀ e ∈ L, (0 ≤ rd d e.f0 ↔ 0 ≤ rd d e.f1)

theorem fin_done {n : Nat} {L : List S71} {r : Int} (hr0 : 0 ≤ r) (hL : ∀ e ∈ L, GE n e) : ∀ (m : Nat) (d b : List Int), neg d < m → St n L r d b → Done n L r (fin L m d b).1 (fin L m d b).2
  | 0, d, b, h, _ => by omega
  | m + 1, d, b, h, s => by
    obtain ⟨i1, i2⟩ := pass_ok (n := n) (L := L) hr0 L d b false (fun e he => ⟨he, hL e he⟩) s
    unfold fin
    rcases i2 with ⟨i2, i3⟩ | ⟨i2, i3⟩
    · rw [i2]
      exact ⟨s, i3⟩
    · rw [if_pos i3]
      exact fin_done hr0 hL m _ _ (by omega) i1

/-- The state before the first pass. -/
theorem St.start (n : Nat) (L : List S71) (r : Int) (h0 : 0 ≤ r) (h1 : r < n) : St n L r ((List.replicate n (-1)).set r.toNat 0) (List.replicate n (-1)) := by
  have hl : r.toNat < (List.replicate n (-1 : Int)).length := by simp; omega
  have hb : ∀ i : Int, 0 ≤ i → i < n → rd (List.replicate n (-1)) i = -1 := by
    intro i h0 h1
    have : i.toNat < n := by omega
    simp [rd, List.getD_eq_getElem?_getD, this]
  have hrd : ∀ i : Int, 0 ≤ i → i < n → rd ((List.replicate n (-1)).set r.toNat 0) i = if i = r then 0 else -1 := by
    intro i q0 q1
    rw [rd_set _ _ _ _ h0 q0 hl]
    split
    · rfl
    · exact hb i q0 q1
  have hn : neg ((List.replicate n (-1 : Int)).set r.toNat 0) ≤ n := by
    have := neg_le ((List.replicate n (-1 : Int)).set r.toNat 0)
    simpa using this
  refine ⟨by simp, by simp, ?_, ?_, ?_, ?_, ?_⟩
  · intro i q0 q1; rw [hrd i q0 q1]; split <;> simp
  · intro i q0 q1; rw [hrd i q0 q1]; split <;> omega
  · rw [hrd r h0 h1, if_pos rfl]
  · intro i q0 q1 hne; rw [hrd i q0 q1, if_neg hne]; omega
  · intro C _ hr i q0 q1
    rw [hrd i q0 q1]
    split
    · rename_i e; rw [e]; exact fun _ => hr
    · omega

/-- The distances from a node, and the nodes before them. -/
def tab (n : Nat) (L : List S71) (r : Int) : List Int × List Int := fin L (n + 1) ((List.replicate n (-1)).set r.toNat 0) (List.replicate n (-1))

theorem tab_done (n : Nat) (L : List S71) (r : Int) (h0 : 0 ≤ r) (h1 : r < n) (hL : ∀ e ∈ L, GE n e) : Done n L r (tab n L r).1 (tab n L r).2 := by
  refine fin_done h0 hL (n + 1) _ _ ?_ (St.start n L r h0 h1)
  have := neg_le ((List.replicate n (-1 : Int)).set r.toNat 0)
  simp at this
  omega

/-- If all nodes are reached from one node, they are from every one. -/
theorem all_reach (n : Nat) (L : List S71) (r s : Int) (h0 : 0 ≤ r) (h1 : r < n) (q0 : 0 ≤ s) (q1 : s < n) (hL : ∀ e ∈ L, GE n e) (h : ∀ i : Int, 0 ≤ i → i < n → 0 ≤ rd (tab n L r).1 i) :
    ∀ i : Int, 0 ≤ i → i < n → 0 ≤ rd (tab n L s).1 i := by
  have d1 := tab_done n L r h0 h1 hL
  have d2 := tab_done n L s q0 q1 hL
  have hs : 0 ≤ rd (tab n L s).1 s := by rw [d2.st.root]; omega
  have key : 0 ≤ rd (tab n L s).1 r := by
    by_cases q : 0 ≤ rd (tab n L s).1 r
    · exact q
    · exfalso
      exact (d1.st.min (fun i => ¬ 0 ≤ rd (tab n L s).1 i) (fun e he => not_congr (d2.shut e he)) q s q0 q1 (h s q0 q1)) hs
  intro i i0 i1
  exact d1.st.min (fun i => 0 ≤ rd (tab n L s).1 i) (fun e he => d2.shut e he) key i i0 i1 (h i i0 i1)


theorem rd71 (l : List S71) (n : Nat) (h : n < l.length) : rd_T71 l (n : Int) = l[n] := by
  simp [rd_T71, h]

/-- The edge at a place: one letter for it. -/
theorem at_edge (L : List S71) (i : Nat) (h : i < L.length) : ∃ e, rd_T71 L (i : Int) = e ∧ e ∈ L ∧ L.drop i = e :: L.drop (i + 1) :=
  ⟨L[i], rd71 L i h, List.getElem_mem h, List.drop_eq_getElem_cons h⟩

theorem stp_B {d b : List Int} {c : Bool} {e : S71} (h : 0 ≤ rd d e.f0) (h' : rd d e.f1 < 0) : stp (d, b, c) e = (d.set e.f1.toNat (rd d e.f0 + e.f2), b.set e.f1.toNat e.f0, true) := by
  unfold stp; rw [if_pos ⟨h, h'⟩]

theorem stp_A {d b : List Int} {c : Bool} {e : S71} (h : 0 ≤ rd d e.f1) (h' : rd d e.f0 < 0) : stp (d, b, c) e = (d.set e.f0.toNat (rd d e.f1 + e.f2), b.set e.f0.toNat e.f1, true) := by
  unfold stp; rw [if_neg (fun q => by simp only at q; omega), if_pos ⟨h, h'⟩]

theorem stp_0 {d b : List Int} {c : Bool} {e : S71} (h : rd d e.f0 < 0) (h' : rd d e.f1 < 0) : stp (d, b, c) e = (d, b, c) := by
  unfold stp; rw [if_neg (fun q => by simp only at q; omega), if_neg (fun q => by simp only at q; omega)]

theorem stp_1 {d b : List Int} {c : Bool} {e : S71} (h : 0 ≤ rd d e.f0) (h' : 0 ≤ rd d e.f1) : stp (d, b, c) e = (d, b, c) := by
  unfold stp; rw [if_neg (fun q => by simp only at q; omega), if_neg (fun q => by simp only at q; omega)]

theorem set_neg1 (d : List Int) (i n : Nat) (h : d.length = n) (hi : i < n) (hd : ∀ j, j < i → d[j]? = some (-1)) : ∀ j, j < i + 1 → (d.set i (-1))[j]? = some (-1) := by
  intro j hj
  by_cases e : j = i
  · subst e; simp [h, hi]
  · rw [List.getElem?_set_ne (by omega)]; exact hd j (by omega)

theorem all_neg1 (d : List Int) (n : Nat) (h : d.length = n) (hd : ∀ j, j < n → d[j]? = some (-1)) : d = List.replicate n (-1) := by
  apply List.ext_getElem?
  intro j
  by_cases q : j < n
  · rw [hd j q]; simp [q]
  · rw [List.getElem?_eq_none (by omega), List.getElem?_eq_none (by simp; omega)]

def gE (n : Nat) (e : S71) : Bool := decide (0 ≤ e.f0) && decide (e.f0 < e.f1) && decide (e.f1 < n) && decide (1 ≤ e.f2) && decide (e.f2 ≤ 20)

theorem gE_iff (n : Nat) (e : S71) : gE n e = true ↔ GE n e := by unfold gE GE; simp [and_assoc]

def ltE (a b : S71) : Bool := decide (a.f0 < b.f0) || (decide (a.f0 = b.f0) && decide (a.f1 < b.f1))

def okFrom (n : Nat) (L : List S71) : Nat → Nat → Bool
  | 0, _ => true
  | d + 1, i => gE n (rd_T71 L (i : Int)) && ((decide (i = 0) || ltE (rd_T71 L ((i - 1 : Nat) : Int)) (rd_T71 L (i : Int))) && okFrom n L d (i + 1))

theorem okFrom_all (n : Nat) (L : List S71) : ∀ (d i : Nat), i + d = L.length → okFrom n L d i = true → ∀ e ∈ L.drop i, GE n e
  | 0, i, hi, _ => by rw [List.drop_of_length_le (by omega)]; intro e h; cases h
  | d + 1, i, hi, h => by
    obtain ⟨e, he, hm, hd⟩ := at_edge L i (by omega)
    simp only [okFrom, Bool.and_eq_true, he] at h
    rw [hd]
    intro e' h'
    rcases List.mem_cons.1 h' with rfl | h'
    · exact (gE_iff n _).1 h.1
    · exact okFrom_all n L d (i + 1) (by omega) h.2.2 e' h'

/-- All nodes are reached from node 0. -/
def reachB (n : Nat) (L : List S71) : Bool := !(decide ((-1 : Int) ∈ (tab n L 0).1))

theorem tab_len (n : Nat) (L : List S71) (r : Int) (h0 : 0 ≤ r) (h1 : r < n) (hL : ∀ e ∈ L, GE n e) : (tab n L r).1.length = n := (tab_done n L r h0 h1 hL).st.dl

theorem reachB_iff (n : Nat) (L : List S71) (h0 : 0 < n) (hL : ∀ e ∈ L, GE n e) : reachB n L = true ↔ ∀ i : Int, 0 ≤ i → i < n → 0 ≤ rd (tab n L 0).1 i := by
  have d := tab_done n L 0 (by omega) (by omega) hL
  have hl := d.st.dl
  unfold reachB
  simp only [Bool.not_eq_true', decide_eq_false_iff_not]
  constructor
  · intro h i i0 i1
    rcases d.st.val i i0 i1 with q | q
    · exfalso; apply h
      have hlt : i.toNat < (tab n L 0).1.length := by omega
      have : rd (tab n L 0).1 i = (tab n L 0).1[i.toNat] := by simp [rd, hlt]
      rw [← q, this]; exact List.getElem_mem hlt
    · exact q
  · intro h hm
    obtain ⟨j, hj, e⟩ := List.getElem_of_mem hm
    have := h (j : Int) (by omega) (by omega)
    have e' : rd (tab n L 0).1 (j : Int) = (tab n L 0).1[j] := by simp [rd, hj]
    omega

def valB (n : Nat) (L : List S71) : Bool := okFrom n L L.length 0 && reachB n L

/-- A tree is valid. -/
def vT (a : Int) (L : List S71) : Bool := decide (2 ≤ a) && (decide (a ≤ 16) && (decide ((L.length : Int) = a - 1) && valB a.toNat L))

theorem vT_out {a : Int} {L : List S71} (h : vT a L = true) : ∃ n : Nat, a = n ∧ 2 ≤ n ∧ n ≤ 16 ∧ L.length = n - 1 ∧ (∀ e ∈ L, GE n e) ∧ okFrom n L L.length 0 = true ∧ ∀ i : Int, 0 ≤ i → i < n → 0 ≤ rd (tab n L 0).1 i := by
  unfold vT valB at h
  simp only [Bool.and_eq_true, decide_eq_true_iff] at h
  obtain ⟨h0, h1, h2, h3, h4⟩ := h
  have hL := okFrom_all a.toNat L L.length 0 (by omega) h3
  rw [List.drop_zero] at hL
  exact ⟨a.toNat, by omega, by omega, by omega, by omega, hL, h3, (reachB_iff a.toNat L (by omega) hL).1 h4⟩

theorem ltE_iff (a b : S71) : ltE a b = true ↔ a.f0 < b.f0 ∨ (a.f0 = b.f0 ∧ a.f1 < b.f1) := by
  unfold ltE; simp

theorem ltE_trans {a b c : S71} (h : ltE a b = true) (g : ltE b c = true) : ltE a c = true := by
  rw [ltE_iff] at *; omega

theorem ltE_total {a b : S71} (h : a.f1 ≠ b.f1) (g : ltE b a = false) : ltE a b = true := by
  rw [Bool.eq_false_iff, Ne, ltE_iff] at g
  rw [ltE_iff]; omega

def Sorted (L : List S71) : Prop := L.Pairwise (fun a b => ltE a b = true)

theorem sorted_get {L : List S71} (h : Sorted L) (i j : Nat) (hij : i < j) (hj : j < L.length) : ltE (L[i]'(by omega)) L[j] = true := (List.pairwise_iff_getElem.1 h) i j (by omega) hj hij

theorem put_sorted {L : List S71} (h : Sorted L) (e : S71) (hne : ∀ x ∈ L, x.f1 ≠ e.f1) (i : Nat) (hi : i ≤ L.length) (h1 : ∀ j (hj : j < L.length), j + 1 = i → ltE e L[j] = false) (h2 : ∀ j (hj : j < L.length), i ≤ j → ltE e L[j] = true) : Sorted (L.take i ++ [e] ++ L.drop i) := by
  have hs : (L.take i ++ L.drop i).Pairwise (fun a b => ltE a b = true) := by rw [List.take_append_drop]; exact h
  rw [List.pairwise_append] at hs
  unfold Sorted
  rw [List.pairwise_append, List.pairwise_append]
  refine ⟨⟨hs.1, List.pairwise_singleton _ _, ?_⟩, hs.2.1, ?_⟩
  · intro x hx y hy
    rw [List.mem_singleton.1 hy]
    obtain ⟨j, hj, rfl⟩ := List.getElem_of_mem hx
    have hj' : j < i := by simp at hj; omega
    have hjl : j < L.length := by omega
    rw [List.getElem_take]
    have hlast : ltE (L[i - 1]'(by omega)) e = true := ltE_total (hne _ (List.getElem_mem _)) (h1 (i - 1) (by omega) (by omega))
    by_cases q : j = i - 1
    · subst q; exact hlast
    · exact ltE_trans (sorted_get h j (i - 1) (by omega) (by omega)) hlast
  · intro x hx y hy
    rcases List.mem_append.1 hx with hx | hx
    · exact hs.2.2 x hx y hy
    · rw [List.mem_singleton.1 hx]
      obtain ⟨j, hj, rfl⟩ := List.getElem_of_mem hy
      rw [List.getElem_drop]
      exact h2 _ _ (by omega)

structure Grown (k : Nat) (L : List S71) : Prop where
  len : L.length + 1 = k
  srt : Sorted L
  ok : ∀ x ∈ L, 0 ≤ x.f0 ∧ x.f0 < x.f1 ∧ x.f1 < k ∧ 1 ≤ x.f2 ∧ x.f2 ≤ 20
  all : ∀ v : Nat, 1 ≤ v → v < k → ∃ x ∈ L, x.f1 = v
  one : ∀ x ∈ L, ∀ y ∈ L, x.f1 = y.f1 → x = y

theorem grown_valid (n : Nat) (h2 : 2 ≤ n) (hn : n ≤ 16) (L : List S71) (h : Grown n L) : vT (n : Int) L = true := by
  have hl := h.len
  have hL : ∀ e ∈ L, GE n e := fun e he => by have := h.ok e he; unfold GE; omega
  have hok : ∀ d i, i + d = L.length → okFrom n L d i = true := by
    intro d
    induction d with
    | zero => intro i _; rfl
    | succ d ih =>
      intro i hi
      have hlt : i < L.length := by omega
      simp only [okFrom, Bool.and_eq_true, Bool.or_eq_true, decide_eq_true_iff]
      refine ⟨by rw [rd71 L i hlt]; exact (gE_iff n _).2 (hL _ (List.getElem_mem hlt)), ?_, ih (i + 1) (by omega)⟩
      by_cases q : i = 0
      · exact .inl q
      · right
        rw [rd71 L i hlt, rd71 L (i - 1) (by omega)]
        exact sorted_get h.srt (i - 1) i (by omega) hlt
  have hr : reachB n L = true := by
    refine (reachB_iff n L (by omega) hL).2 ?_
    have d := tab_done n L 0 (by omega) (by omega) hL
    have : ∀ v : Nat, v < n → 0 ≤ rd (tab n L 0).1 (v : Int) := by
      intro v
      induction v using Nat.strongRecOn with
      | _ v ih =>
        intro hv
        by_cases q : v = 0
        · subst q
          have := d.st.root
          rw [show ((0 : Nat) : Int) = 0 from rfl, this]
          omega
        · obtain ⟨x, hx, e⟩ := h.all v (by omega) hv
          have ho := h.ok x hx
          have := ih x.f0.toNat (by omega) (by omega)
          rw [Int.toNat_of_nonneg ho.1] at this
          rw [← e]
          exact (d.shut x hx).1 this
    intro i i0 i1
    have := this i.toNat (by omega)
    rw [Int.toNat_of_nonneg i0] at this
    exact this
  unfold vT valB
  simp only [Int.toNat_natCast, Bool.and_eq_true, decide_eq_true_iff]
  exact ⟨by omega, by omega, by omega, hok _ 0 (by omega), hr⟩


/-- How many edges a node has. -/
def dg (L : List S71) (x : Int) : Nat := L.countP (fun e => decide (e.f0 = x ∨ e.f1 = x))

theorem dg_le (L : List S71) (x : Int) : dg L x ≤ L.length := List.countP_le_length

theorem dg_cons (e : S71) (L : List S71) (x : Int) : dg (e :: L) x = dg L x + (if e.f0 = x ∨ e.f1 = x then 1 else 0) := by
  unfold dg; rw [List.countP_cons]; simp only [decide_eq_true_iff]

/-- Places that are told by p, from i on. -/
def pick (p : Nat → Bool) : Nat → Nat → List Int → List Int
  | 0, _, acc => acc
  | d + 1, i, acc => if p i = true then pick p d (i + 1) (acc ++ [(i : Int)]) else pick p d (i + 1) acc

theorem pick_len (p : Nat → Bool) : ∀ (d i : Nat) (acc : List Int), (pick p d i acc).length ≤ acc.length + d
  | 0, i, acc => by simp [pick]
  | d + 1, i, acc => by
    unfold pick
    split
    · have := pick_len p d (i + 1) (acc ++ [(i : Int)]); simp at this; omega
    · have := pick_len p d (i + 1) acc; omega

theorem pick_mem (p : Nat → Bool) : ∀ (d i : Nat) (acc : List Int), ∀ x ∈ pick p d i acc, x ∈ acc ∨ ((i : Int) ≤ x ∧ x < i + d ∧ p x.toNat = true)
  | 0, i, acc => fun x h => .inl h
  | d + 1, i, acc => by
    intro x h
    unfold pick at h
    split at h
    · rename_i hp
      rcases pick_mem p d (i + 1) _ x h with h | ⟨a, b, c⟩
      · rcases List.mem_append.1 h with h | h
        · exact .inl h
        · have := List.mem_singleton.1 h
          subst this
          exact .inr ⟨by omega, by omega, by simpa using hp⟩
      · exact .inr ⟨by omega, by omega, c⟩
    · rcases pick_mem p d (i + 1) _ x h with h | ⟨a, b, c⟩
      · exact .inl h
      · exact .inr ⟨by omega, by omega, c⟩

def isLeaf (L : List S71) (i : Nat) : Bool := decide (dg L i = 1)

def leavesL (n : Nat) (L : List S71) : List Int := pick (isLeaf L) n 0 []

theorem leavesL_len (n : Nat) (L : List S71) : (leavesL n L).length ≤ n := by
  have := pick_len (isLeaf L) n 0 []
  simpa [leavesL] using this

theorem leavesL_mem {n : Nat} {L : List S71} {x : Int} (h : x ∈ leavesL n L) : 0 ≤ x ∧ x < n := by
  rcases pick_mem _ _ _ _ x h with h | ⟨a, b, _⟩
  · cases h
  · exact ⟨by omega, by omega⟩


def distRow (n : Nat) (L : List S71) (lv : List Int) (r : Int) : List Int := lv.map (fun x => rd (tab n L r).1 x)

def distOf (n : Nat) (L : List S71) (lv : List Int) : List (List Int) := lv.map (distRow n L lv)

theorem rdI (l : List Int) (i : Nat) (h : i < l.length) : rd l (i : Int) = l[i] := by simp [rd, h]

theorem map_take_next {α : Type} (f : Int → α) (l : List Int) (i : Nat) (h : i < l.length) : (l.take i).map f ++ [f (rd l (i : Int))] = (l.take (i + 1)).map f := by
  rw [List.take_succ_eq_append_getElem h, rdI l i h, List.map_append, List.map_cons, List.map_nil]

theorem distOf_len (n : Nat) (L : List S71) (lv : List Int) : (distOf n L lv).length = lv.length := by simp [distOf]

theorem distOf_row (n : Nat) (L : List S71) (lv : List Int) (i : Nat) (h : i < lv.length) : (rd_L6 (distOf n L lv) (i : Int)).length = lv.length := by
  simp [rd_L6, distOf, h, distRow]


def nodeB (a x : Int) : Bool := decide (0 ≤ x) && decide (x < a)

theorem node_eq (a x : Int) : (decide (0 ≤ x) && decide (x ≤ a - 1)) = nodeB a x := by
  unfold nodeB
  rw [show decide (x ≤ a - 1) = decide (x < a) from decide_eq_decide.2 (by omega)]

end Go.Proofs.YtkimeoknckohfaaDoor.R
