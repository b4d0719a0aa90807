/- Distances in a tree by passes over its edges: the passes end, and what they leave: numbers and lists alone. -/
import Derived.Test.YtddaiabilhjcpaaDoorAx0
import Derived.Test.YtddaiabilhjcpaaDoorAMEv
namespace Go.Proofs.YtddaiabilhjcpaaDoorAT
open Go.RowKit Go.Proofs.YtddaiabilhjcpaaDoor.A Go.Proofs.YtddaiabilhjcpaaDoorW.PrintWords Go.Proofs.YtddaiabilhjcpaaDoorM

theorem rd_set_eq (d : List Int) (i : Int) (v : Int) (h : i.toNat < d.length) : rd (d.set i.toNat v) i = v := by
  simp [rd, List.getD_eq_getElem?_getD, h]
theorem rd_set_ne (d : List Int) (i j : Int) (v : Int) (h0 : 0 ≤ i) (h1 : 0 ≤ j) (h : i ≠ j) : rd (d.set i.toNat v) j = rd d j := by
  have : i.toNat ≠ j.toNat := by omega
  simp [rd, List.getD_eq_getElem?_getD, List.getElem?_set_ne this]
theorem rd_set (d : List Int) (i j : Int) (v : Int) (h0 : 0 ≤ i) (h1 : 0 ≤ j) (h : i.toNat < d.length) : rd (d.set i.toNat v) j = if j = i then v else rd d j := by
  by_cases e : j = i
  · subst e; rw [if_pos rfl, rd_set_eq _ _ _ h]
  · rw [if_neg e, rd_set_ne _ _ _ _ h0 h1 (Ne.symm e)]

def neg (d : List Int) : Nat := d.countP (fun x => decide (x < 0))

theorem neg_set (d : List Int) (i : Int) (v : Int) (h : i.toNat < d.length) (hn : rd d i < 0) (hv : 0 ≤ v) : neg (d.set i.toNat v) + 1 = neg d := by
  have hp : d[i.toNat] < 0 := by simpa [rd, List.getD_eq_getElem?_getD, h] using hn
  have h1 : 0 < neg d := by
    unfold neg; exact List.countP_pos_iff.2 ⟨d[i.toNat], List.getElem_mem h, by simpa using hp⟩
  unfold neg at h1 ⊢
  rw [List.countP_set h]
  simp only [hp, decide_true, if_true]
  have : ¬ v < 0 := by omega
  simp only [this, decide_false, Bool.false_eq_true, if_false]
  omega

theorem neg_le (d : List Int) : neg d ≤ d.length := List.countP_le_length

/-- What a pass does at an edge. -/
def stp (s : List Int × List Int × Bool) (e : S52) : List Int × List Int × Bool :=
  if 0 ≤ rd s.1 e.f0 ∧ rd s.1 e.f1 < 0 then (s.1.set e.f1.toNat (rd s.1 e.f0 + e.f2), s.2.1.set e.f1.toNat e.f0, true)
  else if 0 ≤ rd s.1 e.f1 ∧ rd s.1 e.f0 < 0 then (s.1.set e.f0.toNat (rd s.1 e.f1 + e.f2), s.2.1.set e.f0.toNat e.f1, true)
  else s

/-- An edge of a tree with n nodes. -/
def GE (n : Nat) (e : S52) : Prop := 0 ≤ e.f0 ∧ e.f0 < e.f1 ∧ e.f1 < n ∧ 1 ≤ e.f2 ∧ e.f2 ≤ 20

structure St (n : Nat) (L : List S52) (r : Int) (d b : List Int) : Prop where
  dl : d.length = n
  bl : b.length = n
  val : ∀ i : Int, 0 ≤ i → i < n → rd d i = -1 ∨ 0 ≤ rd d i
  bnd : ∀ i : Int, 0 ≤ i → i < n → rd d i ≤ 20 * ((n : Int) - neg d)
  root : rd d r = 0
  par : ∀ i : Int, 0 ≤ i → i < n → i ≠ r → 0 ≤ rd d i → 0 ≤ rd b i ∧ rd b i < n ∧ 0 ≤ rd d (rd b i) ∧ rd d (rd b i) < rd d i
  min : ∀ C : Int → Prop, (∀ e ∈ L, (C e.f0 ↔ C e.f1)) → C r → ∀ i : Int, 0 ≤ i → i < n → 0 ≤ rd d i → C i

theorem St.set {n : Nat} {L : List S52} {r : Int} {d b : List Int} (s : St n L r d b) (x y len : Int) (hx0 : 0 ≤ x) (hx1 : x < n) (hy0 : 0 ≤ y) (hy1 : y < n) (hxy : x ≠ y)
    (hx : 0 ≤ rd d x) (hy : rd d y < 0) (hl0 : 1 ≤ len) (hl1 : len ≤ 20) (hr0 : 0 ≤ r)
    (hC : ∀ C : Int → Prop, (∀ e ∈ L, (C e.f0 ↔ C e.f1)) → C x → C y) :
    St n L r (d.set y.toNat (rd d x + len)) (b.set y.toNat x) ∧ neg (d.set y.toNat (rd d x + len)) + 1 = neg d := by
  have hyl : y.toNat < d.length := by rw [s.dl]; omega
  have hyb : y.toNat < b.length := by rw [s.bl]; omega
  have hneg := neg_set d y (rd d x + len) hyl hy (by omega)
  have hrd : ∀ i : Int, 0 ≤ i → rd (d.set y.toNat (rd d x + len)) i = if i = y then rd d x + len else rd d i := fun i hi => rd_set d y i _ hy0 hi hyl
  have hrb : ∀ i : Int, 0 ≤ i → rd (b.set y.toNat x) i = if i = y then x else rd b i := fun i hi => rd_set b y i _ hy0 hi hyb
  have hry : r ≠ y := fun e => by rw [← e, s.root] at hy; omega
  refine ⟨⟨by simp [s.dl], by simp [s.bl], ?_, ?_, ?_, ?_, ?_⟩, hneg⟩
  · intro i h0 h1
    rw [hrd i h0]
    split
    · right; omega
    · exact s.val i h0 h1
  · intro i h0 h1
    rw [hrd i h0]
    have := s.bnd i h0 h1
    have := s.bnd x hx0 hx1
    split <;> omega
  · rw [hrd r hr0, if_neg hry]; exact s.root
  · intro i h0 h1 hir
    rw [hrd i h0, hrb i h0]
    by_cases e : i = y
    · rw [if_pos e, if_pos e, hrd x hx0, if_neg hxy]
      intro _
      exact ⟨hx0, hx1, hx, by omega⟩
    · rw [if_neg e, if_neg e]
      intro h
      obtain ⟨p0, p1, p2, p3⟩ := s.par i h0 h1 hir h
      have hne : rd b i ≠ y := fun e2 => by rw [e2] at p2; omega
      rw [hrd _ p0, if_neg hne]
      exact ⟨p0, p1, p2, p3⟩
  · intro C hE hr i h0 h1
    rw [hrd i h0]
    by_cases e : i = y
    · intro _
      rw [e]
      exact hC C hE (s.min C hE hr x hx0 hx1 hx)
    · rw [if_neg e]
      exact s.min C hE hr i h0 h1

theorem stp_ok {n : Nat} {L : List S52} {r : Int} {d b : List Int} {c : Bool} (s : St n L r d b) (hr0 : 0 ≤ r) (e : S52) (he : e ∈ L) (g : GE n e) :
    St n L r (stp (d, b, c) e).1 (stp (d, b, c) e).2.1 ∧
      ((stp (d, b, c) e = (d, b, c) ∧ (0 ≤ rd d e.f0 ↔ 0 ≤ rd d e.f1)) ∨ (neg (stp (d, b, c) e).1 + 1 = neg d ∧ (stp (d, b, c) e).2.2 = true)) := by
  obtain ⟨g0, g1, g2, g3, g4⟩ := g
  unfold stp
  by_cases h : 0 ≤ rd d e.f0 ∧ rd d e.f1 < 0
  · rw [if_pos h]
    obtain ⟨k1, k2⟩ := s.set e.f0 e.f1 e.f2 (by omega) (by omega) (by omega) (by omega) (by omega) h.1 h.2 g3 g4 hr0 (fun C hE hx => (hE e he).1 hx)
    exact ⟨k1, .inr ⟨k2, rfl⟩⟩
  · rw [if_neg h]
    by_cases h' : 0 ≤ rd d e.f1 ∧ rd d e.f0 < 0
    · rw [if_pos h']
      obtain ⟨k1, k2⟩ := s.set e.f1 e.f0 e.f2 (by omega) (by omega) (by omega) (by omega) (by omega) h'.1 h'.2 g3 g4 hr0 (fun C hE hx => (hE e he).2 hx)
      exact ⟨k1, .inr ⟨k2, rfl⟩⟩
    · rw [if_neg h']
      refine ⟨s, .inl ⟨rfl, ?_⟩⟩
      constructor
      · intro a; by_cases q : 0 ≤ rd d e.f1
        · exact q
        · exact absurd ⟨a, by omega⟩ h
      · intro a; by_cases q : 0 ≤ rd d e.f0
        · exact q
        · exact absurd ⟨a, by omega⟩ h'

/-- A pass over some of the edges. -/
theorem pass_ok {n : Nat} {L : List S52} {r : Int} (hr0 : 0 ≤ r) : ∀ (M : List S52) (d b : List Int) (c : Bool), (∀ e ∈ M, e ∈ L ∧ GE n e) → St n L r d b →
    St n L r (M.foldl stp (d, b, c)).1 (M.foldl stp (d, b, c)).2.1 ∧
      ((M.foldl stp (d, b, c) = (d, b, c) ∧ ∀ e ∈ M, (0 ≤ rd d e.f0 ↔ 0 ≤ rd d e.f1)) ∨ (neg (M.foldl stp (d, b, c)).1 < neg d ∧ (M.foldl stp (d, b, c)).2.2 = true))
  | [], d, b, c, _, s => ⟨s, .inl ⟨rfl, fun e h => by cases h⟩⟩
  | e :: M, d, b, c, hM, s => by
    obtain ⟨k1, k2⟩ := stp_ok (c := c) s hr0 e (hM e List.mem_cons_self).1 (hM e List.mem_cons_self).2
    have hM' : ∀ e' ∈ M, e' ∈ L ∧ GE n e' := fun e' h => hM e' (List.mem_cons_of_mem _ h)
    simp only [List.foldl_cons]
    rcases k2 with ⟨k2, k3⟩ | ⟨k2, k3⟩
    · rw [k2]
      obtain ⟨i1, i2⟩ := pass_ok hr0 M d b c hM' s
      refine ⟨i1, ?_⟩
      rcases i2 with ⟨i2, i3⟩ | i2
      · left
        refine ⟨i2, fun e' h => ?_⟩
        rcases List.mem_cons.1 h with rfl | h
        · exact k3
        · exact i3 e' h
      · exact .inr i2
    · obtain ⟨d', b', c', hs⟩ : ∃ d' b' c', stp (d, b, c) e = (d', b', c') := ⟨_, _, _, rfl⟩
      rw [hs] at k1 k2 k3 ⊢
      simp only at k1 k2 k3
      subst k3
      obtain ⟨i1, i2⟩ := pass_ok hr0 M d' b' true hM' k1
      refine ⟨i1, .inr ?_⟩
      rcases i2 with ⟨i2, _⟩ | ⟨i2, i3⟩
      · rw [i2]; exact ⟨by simp only; omega, rfl⟩
      · exact ⟨by omega, i3⟩

/-- Passes until nothing changes (so many at the most). -/
def fin (L : List S52) : Nat → List Int → List Int → List Int × List Int
  | 0, d, b => (d, b)
  | m + 1, d, b => if (L.foldl stp (d, b, false)).2.2 = true then fin L m (L.foldl stp (d, b, false)).1 (L.foldl stp (d, b, false)).2.1 else (d, b)

structure Done (n : Nat) (L : List S52) (r : Int) (d b : List Int) : Prop where
  st : St n L r d b
  shut : ∀ e ∈ L, (0 ≤ rd d e.f0 ↔ 0 ≤ rd d e.f1)

theorem fin_done {n : Nat} {L : List S52} {r : Int} (hr0 : 0 ≤ r) (hL : ∀ e ∈ L, GE n e) : ∀ (m : Nat) (d b : List Int), neg d < m → St n L r d b → Done n L r (fin L m d b).1 (fin L m d b).2
  | 0, d, b, h, _ => by omega
  | m + 1, d, b, h, s => by
    obtain ⟨i1, i2⟩ := pass_ok (n := n) (L := L) hr0 L d b false (fun e he => ⟨he, hL e he⟩) s
    unfold fin
    rcases i2 with ⟨i2, i3⟩ | ⟨i2, i3⟩
    · rw [i2]
      exact ⟨s, i3⟩
    · rw [if_pos i3]
      exact fin_done hr0 hL m _ _ (by omega) i1

/-- The state before the first pass. -/
theorem St.start (n : Nat) (L : List S52) (r : Int) (h0 : 0 ≤ r) (h1 : r < n) : St n L r ((List.replicate n (-1)).set r.toNat 0) (List.replicate n (-1)) := by
  have hl : r.toNat < (List.replicate n (-1 : Int)).length := by simp; omega
  have hb : ∀ i : Int, 0 ≤ i → i < n → rd (List.replicate n (-1)) i = -1 := by
    intro i h0 h1
    have : i.toNat < n := by omega
    simp [rd, List.getD_eq_getElem?_getD, this]
  have hrd : ∀ i : Int, 0 ≤ i → i < n → rd ((List.replicate n (-1)).set r.toNat 0) i = if i = r then 0 else -1 := by
    intro i q0 q1
    rw [rd_set _ _ _ _ h0 q0 hl]
    split
    · rfl
    · exact hb i q0 q1
  have hn : neg ((List.replicate n (-1 : Int)).set r.toNat 0) ≤ n := by
    have := neg_le ((List.replicate n (-1 : Int)).set r.toNat 0)
    simpa using this
  refine ⟨by simp, by simp, ?_, ?_, ?_, ?_, ?_⟩
  · intro i q0 q1; rw [hrd i q0 q1]; split <;> simp
  · intro i q0 q1; rw [hrd i q0 q1]; split <;> omega
  · rw [hrd r h0 h1, if_pos rfl]
  · intro i q0 q1 hne; rw [hrd i q0 q1, if_neg hne]; omega
  · intro C _ hr i q0 q1
    rw [hrd i q0 q1]
    split
    · rename_i e; rw [e]; exact fun _ => hr
    · omega

/-- The distances from a node, and the nodes before them. -/
def tab (n : Nat) (L : List S52) (r : Int) : List Int × List Int := fin L (n + 1) ((List.replicate n (-1)).set r.toNat 0) (List.replicate n (-1))

theorem tab_done (n : Nat) (L : List S52) (r : Int) (h0 : 0 ≤ r) (h1 : r < n) (hL : ∀ e ∈ L, GE n e) : Done n L r (tab n L r).1 (tab n L r).2 := by
  refine fin_done h0 hL (n + 1) _ _ ?_ (St.start n L r h0 h1)
  have := neg_le ((List.replicate n (-1 : Int)).set r.toNat 0)
  simp at this
  omega

/-- If all nodes are reached from one node, they are from every one. -/
theorem all_reach (n : Nat) (L : List S52) (r s : Int) (h0 : 0 ≤ r) (h1 : r < n) (q0 : 0 ≤ s) (q1 : s < n) (hL : ∀ e ∈ L, GE n e) (h : ∀ i : Int, 0 ≤ i → i < n → 0 ≤ rd (tab n L r).1 i) :
    ∀ i : Int, 0 ≤ i → i < n → 0 ≤ rd (tab n L s).1 i := by
  have d1 := tab_done n L r h0 h1 hL
  have d2 := tab_done n L s q0 q1 hL
  have hs : 0 ≤ rd (tab n L s).1 s := by rw [d2.st.root]; omega
  have key : 0 ≤ rd (tab n L s).1 r := by
    by_cases q : 0 ≤ rd (tab n L s).1 r
    · exact q
    · exfalso
      exact (d1.st.min (fun i => ¬ 0 ≤ rd (tab n L s).1 i) (fun e he => not_congr (d2.shut e he)) q s q0 q1 (h s q0 q1)) hs
  intro i i0 i1
  exact d1.st.min (fun i => 0 ≤ rd (tab n L s).1 i) (fun e he => d2.shut e he) key i i0 i1 (h i i0 i1)

end Go.Proofs.YtddaiabilhjcpaaDoorAT
