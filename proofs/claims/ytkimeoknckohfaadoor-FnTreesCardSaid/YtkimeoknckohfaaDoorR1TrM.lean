/- The metric of a tree. -/
import Derived.Test.YtkimeoknckohfaaDoorR1TrA
namespace Go.Proofs.YtkimeoknckohfaaDoor.R
open Go.Proofs.YtkimeoknckohfaaDoor.R1
/-! the edge behind each step -/
def Eg (n : Nat) (L : List S71) (r : Int) (d b : List Int) : Prop :=
  ∀ i : Int, 0 ≤ i → i < n → i ≠ r → 0 ≤ rd d i → ∃ e ∈ L, ((e.f0 = i ∧ e.f1 = rd b i) ∨ (e.f1 = i ∧ e.f0 = rd b i)) ∧ rd d i = rd d (rd b i) + e.f2

theorem Eg.set {n : Nat} {L : List S71} {r : Int} {d b : List Int} (s : St n L r d b) (g : Eg n L r d b) (e : S71) (he : e ∈ L) (x y : Int) (hxy : (e.f0 = y ∧ e.f1 = x) ∨ (e.f1 = y ∧ e.f0 = x)) (hx0 : 0 ≤ x) (hx1 : x < n) (hy0 : 0 ≤ y) (hy1 : y < n) (hne : x ≠ y) (hy : rd d y < 0) :
    Eg n L r (d.set y.toNat (rd d x + e.f2)) (b.set y.toNat x) := by
  have hyl : y.toNat < d.length := by rw [s.dl]; omega
  have hyb : y.toNat < b.length := by rw [s.bl]; omega
  have hrd : ∀ i : Int, 0 ≤ i → rd (d.set y.toNat (rd d x + e.f2)) i = if i = y then rd d x + e.f2 else rd d i := fun i hi => rd_set d y i _ hy0 hi hyl
  have hrb : ∀ i : Int, 0 ≤ i → rd (b.set y.toNat x) i = if i = y then x else rd b i := fun i hi => rd_set b y i _ hy0 hi hyb
  intro i h0 h1 hir hd
  rw [hrd i h0] at hd ⊢
  rw [hrb i h0]
  by_cases q : i = y
  · subst q
    rw [if_pos rfl, if_pos rfl, hrd x hx0, if_neg hne]
    exact ⟨e, he, hxy, rfl⟩
  · rw [if_neg q] at hd
    rw [if_neg q, if_neg q]
    obtain ⟨p0, p1, p2, p3⟩ := s.par i h0 h1 hir hd
    have hn : rd b i ≠ y := fun e2 => by rw [e2] at p2; omega
    rw [hrd _ p0, if_neg hn]
    exact g i h0 h1 hir hd

theorem stp_eg {n : Nat} {L : List S71} {r : Int} {d b : List Int} {c : Bool} (s : St n L r d b) (g : Eg n L r d b) (e : S71) (he : e ∈ L) (ge : GE n e) : Eg n L r (stp (d, b, c) e).1 (stp (d, b, c) e).2.1 := by
  obtain ⟨g0, g1, g2, g3, g4⟩ := ge
  unfold stp
  by_cases h : 0 ≤ rd d e.f0 ∧ rd d e.f1 < 0
  · rw [if_pos h]
    exact Eg.set s g e he e.f0 e.f1 (.inr ⟨rfl, rfl⟩) (by omega) (by omega) (by omega) (by omega) (by omega) h.2
  · rw [if_neg h]
    by_cases h' : 0 ≤ rd d e.f1 ∧ rd d e.f0 < 0
    · rw [if_pos h']
      exact Eg.set s g e he e.f1 e.f0 (.inl ⟨rfl, rfl⟩) (by omega) (by omega) (by omega) (by omega) (by omega) h'.2
    · rw [if_neg h']
      exact g

theorem pass_eg {n : Nat} {L : List S71} {r : Int} (hr0 : 0 ≤ r) : ∀ (M : List S71) (d b : List Int) (c : Bool), (∀ e ∈ M, e ∈ L ∧ GE n e) → St n L r d b → Eg n L r d b → Eg n L r (M.foldl stp (d, b, c)).1 (M.foldl stp (d, b, c)).2.1
  | [], d, b, c, _, _, g => g
  | e :: M, d, b, c, hM, s, g => by
    have k1 := (stp_ok (c := c) s hr0 e (hM e List.mem_cons_self).1 (hM e List.mem_cons_self).2).1
    have k2 := stp_eg (c := c) s g e (hM e List.mem_cons_self).1 (hM e List.mem_cons_self).2
    rw [List.foldl_cons]
    obtain ⟨d', b', c', hs⟩ : ∃ d' b' c', stp (d, b, c) e = (d', b', c') := ⟨_, _, _, rfl⟩
    rw [hs] at k1 k2 ⊢
    exact pass_eg hr0 M d' b' c' (fun e' h => hM e' (List.mem_cons_of_mem _ h)) k1 k2

theorem fin_eg {n : Nat} {L : List S71} {r : Int} (hr0 : 0 ≤ r) (hL : ∀ e ∈ L, GE n e) : ∀ (m : Nat) (d b : List Int), St n L r d b → Eg n L r d b → Eg n L r (fin L m d b).1 (fin L m d b).2
  | 0, d, b, _, g => g
  | m + 1, d, b, s, g => by
    have i1 := (pass_ok (n := n) (L := L) hr0 L d b false (fun e he => ⟨he, hL e he⟩) s).1
    have i2 := pass_eg (n := n) (L := L) hr0 L d b false (fun e he => ⟨he, hL e he⟩) s g
    unfold fin
    split
    · exact fin_eg hr0 hL m _ _ i1 i2
    · exact g

theorem tab_eg (n : Nat) (L : List S71) (r : Int) (h0 : 0 ≤ r) (h1 : r < n) (hL : ∀ e ∈ L, GE n e) : Eg n L r (tab n L r).1 (tab n L r).2 := by
  refine fin_eg h0 hL (n + 1) _ _ (St.start n L r h0 h1) ?_
  intro i i0 i1 hir hd
  exfalso
  have hl : r.toNat < (List.replicate n (-1 : Int)).length := by simp; omega
  rw [rd_set _ _ _ _ h0 i0 hl, if_neg hir] at hd
  have : i.toNat < n := by omega
  simp [rd, List.getD_eq_getElem?_getD, this] at hd

/-! the tree and its distances, as functions -/
/-- Nodes 0 .. n-1; node v > 0 hangs on p v by an edge of length l v; D z v is the distance, B z v the next node on the way from v to z. -/
structure TMet (n : Int) (p l : Int → Int) (D B : Int → Int → Int) : Prop where
  pr : ∀ v, 1 ≤ v → v < n → 0 ≤ p v ∧ p v < v ∧ 1 ≤ l v
  zero : ∀ z, 0 ≤ z → z < n → D z z = 0
  pos : ∀ z v, 0 ≤ z → z < n → 0 ≤ v → v < n → 0 ≤ D z v
  step : ∀ z v, 0 ≤ z → z < n → 0 ≤ v → v < n → v ≠ z → 0 ≤ B z v ∧ B z v < n ∧ ((1 ≤ v ∧ B z v = p v ∧ D z v = D z (p v) + l v) ∨ (1 ≤ B z v ∧ p (B z v) = v ∧ D z v = D z (B z v) + l (B z v)))

/-- v stands on the way from z down to node 0. -/
inductive An (p : Int → Int) (v : Int) : Int → Prop
  | self : An p v v
  | up (z : Int) : 1 ≤ z → An p v (p z) → An p v z

section
variable {n : Int} {p l : Int → Int} {D B : Int → Int → Int} (M : TMet n p l D B)
include M

theorem TMet.an_le {v z : Int} (h : An p v z) : z < n → v ≤ z := by
  induction h with
  | self => intro _; omega
  | up z hz _ ih => intro hn; have := M.pr z hz hn; have := ih (by omega); omega

theorem TMet.an_one {c c' z : Int} (hc : 1 ≤ c) (hc' : 1 ≤ c') (e : p c = p c') (h : An p c z) (h' : An p c' z) : z < n → c = c' := by
  induction h with
  | self =>
    intro hn
    cases h' with
    | self => rfl
    | up _ _ h' =>
      have q := M.pr c hc hn
      have := M.an_le h' (by omega)
      have := M.pr c' hc' (by omega)
      omega
  | up z hz h ih =>
    intro hn
    have q := M.pr z hz hn
    cases h' with
    | self =>
      have := M.an_le h (by omega)
      have := M.pr c hc (by omega)
      omega
    | up _ _ h' => exact ih h' (by omega)

omit M in
theorem an_down {c z : Int} (hc : 1 ≤ c) (h : An p c z) : An p (p c) z := by
  induction h with
  | self => exact .up c hc .self
  | up z hz _ ih => exact .up z hz ih

omit M in
theorem an_child {v z : Int} (h : An p v z) : v = z ∨ ∃ c, 1 ≤ c ∧ p c = v ∧ An p c z := by
  induction h with
  | self => exact .inl rfl
  | up z hz _ ih =>
    rcases ih with rfl | ⟨c, h1, h2, h3⟩
    · exact .inr ⟨z, hz, rfl, .self⟩
    · exact .inr ⟨c, h1, h2, .up z hz h3⟩

/-- Off the way from z to node 0, a node's next node is the one that it hangs on. -/
theorem TMet.off (z : Int) (z0 : 0 ≤ z) (z1 : z < n) : ∀ (m : Nat) (v : Int), 1 ≤ v → v < n → n ≤ v + m → ¬ An p v z → B z v = p v ∧ D z v = D z (p v) + l v
  | 0, v, h0, h1, hm, _ => by omega
  | m + 1, v, h0, h1, hm, h => by
    have hz : v ≠ z := fun e => h (e ▸ .self)
    obtain ⟨b0, b1, c⟩ := M.step z v z0 z1 (by omega) h1 hz
    rcases c with ⟨_, c1, c2⟩ | ⟨c0, c1, c2⟩
    · exact ⟨c1, c2⟩
    · exfalso
      have q := M.pr _ c0 b1
      have i := TMet.off z z0 z1 m (B z v) c0 b1 (by omega) (fun g => h (by have := an_down c0 g; rwa [c1] at this))
      rw [c1] at i
      omega

/-- On it, the next node is the one towards z. -/
theorem TMet.on (z : Int) (z0 : 0 ≤ z) (z1 : z < n) : ∀ (m : Nat) (v : Int), 0 ≤ v → v < n → v ≤ m → ∀ c, 1 ≤ c → p c = v → An p c z → B z v = c ∧ D z v = D z c + l c
  | m, v, h0, h1, hm, c, hc, e, h => by
    have cn : c < n := by have := M.an_le h z1; omega
    have q := M.pr c hc cn
    have hz : v ≠ z := by have := M.an_le h z1; omega
    obtain ⟨b0, b1, k⟩ := M.step z v z0 z1 (by omega) h1 hz
    rcases k with ⟨k0, k1, k2⟩ | ⟨k0, k1, k2⟩
    · exfalso
      have qv := M.pr v k0 h1
      match m, hm with
      | 0, hm => omega
      | m + 1, hm =>
        have i := TMet.on z z0 z1 m (p v) qv.1 (by omega) (by omega) v k0 rfl (by have := an_down hc h; rwa [e] at this)
        omega
    · by_cases g : An p (B z v) z
      · have := M.an_one k0 hc (by rw [k1, e]) g h z1
        rw [this] at k2 ⊢
        exact ⟨rfl, k2⟩
      · exfalso
        have i := M.off z z0 z1 n.toNat (B z v) k0 b1 (by omega) g
        rw [k1] at i
        have := M.pr _ k0 b1
        omega

/-- Along an edge the distance changes by its length. -/
theorem TMet.edge (z v : Int) (z0 : 0 ≤ z) (z1 : z < n) (h0 : 1 ≤ v) (h1 : v < n) : (B z v = p v ∧ v ≠ z ∧ D z v = D z (p v) + l v) ∨ (B z (p v) = v ∧ p v ≠ z ∧ D z (p v) = D z v + l v) := by
  have q := M.pr v h0 h1
  by_cases h : An p v z
  · have i := M.on z z0 z1 n.toNat (p v) q.1 (by omega) (by omega) v h0 rfl h
    refine .inr ⟨i.1, ?_, i.2⟩
    have := M.an_le h z1
    omega
  · have i := M.off z z0 z1 n.toNat v h0 h1 (by omega) h
    exact .inl ⟨i.1, fun e => h (e ▸ .self), i.2⟩

theorem TMet.tri (r s : Int) (r0 : 0 ≤ r) (r1 : r < n) (s0 : 0 ≤ s) (s1 : s < n) : ∀ (m : Nat) (i : Int), 0 ≤ i → i < n → D s i ≤ m → D r i ≤ D r s + D s i ∧ D r s ≤ D r i + D s i
  | m, i, i0, i1, hm => by
    by_cases e : i = s
    · subst e
      have := M.zero i i0 i1
      omega
    · obtain ⟨b0, b1, k⟩ := M.step s i s0 s1 i0 i1 e
      rcases k with ⟨k0, k1, k2⟩ | ⟨k0, k1, k2⟩
      · have q := M.pr i k0 i1
        have := M.pos s (p i) s0 s1 q.1 (by omega)
        match m, hm with
        | 0, hm => omega
        | m + 1, hm =>
          have ih := TMet.tri r s r0 r1 s0 s1 m (p i) q.1 (by omega) (by omega)
          have f := M.edge r i r0 r1 k0 i1
          rcases f with f | f <;> omega
      · have q := M.pr _ k0 b1
        have := M.pos s (B s i) s0 s1 b0 b1
        match m, hm with
        | 0, hm => omega
        | m + 1, hm =>
          have ih := TMet.tri r s r0 r1 s0 s1 m (B s i) b0 b1 (by omega)
          have f := M.edge r (B s i) r0 r1 k0 b1
          rw [k1] at f
          rcases f with f | f <;> omega

theorem TMet.sym (r s : Int) (r0 : 0 ≤ r) (r1 : r < n) (s0 : 0 ≤ s) (s1 : s < n) : D r s = D s r := by
  have h1 := (M.tri r s r0 r1 s0 s1 (D s r).toNat r r0 r1 (by omega)).2
  have h2 := (M.tri s r s0 s1 r0 r1 (D r s).toNat s s0 s1 (by omega)).2
  have := M.zero r r0 r1
  have := M.zero s s0 s1
  omega

theorem TMet.tri3 (a b c : Int) (a0 : 0 ≤ a) (a1 : a < n) (b0 : 0 ≤ b) (b1 : b < n) (c0 : 0 ≤ c) (c1 : c < n) : D a c ≤ D a b + D b c :=
  (M.tri a b a0 a1 b0 b1 (D b c).toNat c c0 c1 (by omega)).1

/-- The next node lies where the distance drops by just its distance. -/
theorem TMet.next (y v : Int) (y0 : 0 ≤ y) (y1 : y < n) (v0 : 0 ≤ v) (v1 : v < n) (h : v ≠ y) : D y v = D y (B y v) + D v (B y v) := by
  obtain ⟨b0, b1, k⟩ := M.step y v y0 y1 v0 v1 h
  have t := M.tri3 y (B y v) v y0 y1 b0 b1 v0 v1
  have s := M.sym v (B y v) v0 v1 b0 b1
  have z := M.zero v v0 v1
  rcases k with ⟨k0, k1, k2⟩ | ⟨k0, k1, k2⟩
  · have f := M.edge v v v0 v1 k0 v1
    have pv := M.pos v (p v) v0 v1 (by omega) (by omega)
    have q := M.pr v k0 v1
    rw [k1] at t s ⊢
    rcases f with f | f <;> omega
  · have f := M.edge v (B y v) v0 v1 k0 b1
    have q := M.pr _ k0 b1
    have pv := M.pos v (B y v) v0 v1 b0 b1
    rw [k1] at f
    rcases f with f | f <;> omega

theorem TMet.high (a z : Int) (z0 : 0 ≤ z) (h : z < a) (a1 : a < n) : D z a = D z (p a) + l a :=
  (M.off z z0 (by omega) n.toNat a (by omega) a1 (by omega) (fun g => by have := M.an_le g (by omega); omega)).2

/-- Of the three sums of four points the two greatest are alike. -/
def F4 (D : Int → Int → Int) (a b c d : Int) : Prop :=
  (D a b + D c d ≤ D a c + D b d ∧ D a c + D b d = D a d + D b c) ∨ (D a c + D b d ≤ D a b + D c d ∧ D a b + D c d = D a d + D b c) ∨ (D a d + D b c ≤ D a b + D c d ∧ D a b + D c d = D a c + D b d)

theorem TMet.four_top {N : Nat} (ih : ∀ a b c d : Int, 0 ≤ a → a < n → 0 ≤ b → b < n → 0 ≤ c → c < n → 0 ≤ d → d < n → a + b + c + d ≤ N → F4 D a b c d) (a b c d : Int) (a0 : 0 ≤ a) (a1 : a < n) (b0 : 0 ≤ b) (b1 : b ≤ a) (c0 : 0 ≤ c) (c1 : c ≤ a) (d0 : 0 ≤ d) (d1 : d ≤ a) (h : a + b + c + d ≤ N + 1) : F4 D a b c d := by
  have zz := M.zero a a0 a1
  by_cases eb : b = a
  · subst eb
    have t := M.tri3 c b d c0 (by omega) b0 a1 d0 (by omega)
    have s := M.sym b c b0 a1 c0 (by omega)
    unfold F4; omega
  by_cases ec : c = a
  · subst ec
    have t := M.tri3 b c d b0 (by omega) c0 a1 d0 (by omega)
    have s := M.sym b c b0 (by omega) c0 a1
    unfold F4; omega
  by_cases ed : d = a
  · subst ed
    have t := M.tri3 b d c b0 (by omega) d0 a1 c0 (by omega)
    have s := M.sym b d b0 (by omega) d0 a1
    have s' := M.sym c d c0 (by omega) d0 a1
    unfold F4; omega
  have q := M.pr a (by omega) a1
  have i := ih (p a) b c d q.1 (by omega) b0 (by omega) c0 (by omega) d0 (by omega) (by omega)
  have hb := M.high a b b0 (by omega) a1
  have hc := M.high a c c0 (by omega) a1
  have hd := M.high a d d0 (by omega) a1
  have sb := M.sym a b a0 a1 b0 (by omega)
  have sc := M.sym a c a0 a1 c0 (by omega)
  have sd := M.sym a d a0 a1 d0 (by omega)
  have pb := M.sym (p a) b q.1 (by omega) b0 (by omega)
  have pc := M.sym (p a) c q.1 (by omega) c0 (by omega)
  have pd := M.sym (p a) d q.1 (by omega) d0 (by omega)
  unfold F4 at i ⊢
  omega

theorem TMet.four : ∀ (N : Nat) (a b c d : Int), 0 ≤ a → a < n → 0 ≤ b → b < n → 0 ≤ c → c < n → 0 ≤ d → d < n → a + b + c + d ≤ N → F4 D a b c d
  | 0, a, b, c, d, a0, a1, b0, b1, c0, c1, d0, d1, h => by
    obtain rfl : a = 0 := by omega
    obtain rfl : b = 0 := by omega
    obtain rfl : c = 0 := by omega
    obtain rfl : d = 0 := by omega
    unfold F4; omega
  | N + 1, a, b, c, d, a0, a1, b0, b1, c0, c1, d0, d1, h => by
    have ih := TMet.four N
    have ab := M.sym a b a0 a1 b0 b1
    have ac := M.sym a c a0 a1 c0 c1
    have ad := M.sym a d a0 a1 d0 d1
    have bc := M.sym b c b0 b1 c0 c1
    have bd := M.sym b d b0 b1 d0 d1
    have cd := M.sym c d c0 c1 d0 d1
    by_cases A : b ≤ a ∧ c ≤ a ∧ d ≤ a
    · exact M.four_top ih a b c d a0 a1 b0 A.1 c0 A.2.1 d0 A.2.2 (by omega)
    · by_cases X : a ≤ b ∧ c ≤ b ∧ d ≤ b
      · have := M.four_top ih b a c d b0 b1 a0 X.1 c0 X.2.1 d0 X.2.2 (by omega)
        unfold F4 at this ⊢; omega
      · by_cases Y : a ≤ c ∧ b ≤ c ∧ d ≤ c
        · have := M.four_top ih c a b d c0 c1 a0 Y.1 b0 Y.2.1 d0 Y.2.2 (by omega)
          unfold F4 at this ⊢; omega
        · have := M.four_top ih d a b c d0 d1 a0 (by omega) b0 (by omega) c0 (by omega) (by omega)
          unfold F4 at this ⊢; omega
end

def ed (L : List S71) (v : Int) : S71 := (L.find? (fun e => decide (e.f1 = v))).getD ⟨0, 0, 0⟩

theorem ed_eq {k : Nat} {L : List S71} (G : Grown k L) (e : S71) (he : e ∈ L) : ed L e.f1 = e := by
  unfold ed
  cases h : L.find? (fun x => decide (x.f1 = e.f1)) with
  | none =>
    have := List.find?_eq_none.1 h e he
    simp at this
  | some x =>
    have h1 := List.find?_some h
    have h2 := List.mem_of_find?_eq_some h
    simp only [decide_eq_true_iff] at h1
    exact G.one x h2 e he h1

def DD (n : Nat) (L : List S71) (z v : Int) : Int := rd (tab n L z).1 v
def BB (n : Nat) (L : List S71) (z v : Int) : Int := rd (tab n L z).2 v

theorem grown_ge {n : Nat} {L : List S71} (G : Grown n L) : ∀ e ∈ L, GE n e := fun e he => by have := G.ok e he; unfold GE; omega

theorem met_of (n : Nat) (L : List S71) (h2 : 2 ≤ n) (G : Grown n L) (hr : ∀ i : Int, 0 ≤ i → i < n → 0 ≤ rd (tab n L 0).1 i) : TMet (n : Int) (fun v => (ed L v).f0) (fun v => (ed L v).f2) (DD n L) (BB n L) := by
  have hL := grown_ge G
  refine ⟨fun v v0 v1 => ?_, fun z z0 z1 => (tab_done n L z z0 z1 hL).st.root, fun z v z0 z1 v0 v1 => all_reach n L 0 z (by omega) (by omega) z0 z1 hL hr v v0 v1, fun z v z0 z1 v0 v1 hz => ?_⟩
  · obtain ⟨x, hx, e⟩ := G.all v.toNat (by omega) (by omega)
    have := G.ok x hx
    have q := ed_eq G x hx
    rw [show x.f1 = v by omega] at q
    simp only [q]
    omega
  · obtain ⟨e, he, h, hd⟩ := tab_eg n L z z0 z1 hL v v0 v1 hz (all_reach n L 0 z (by omega) (by omega) z0 z1 hL hr v v0 v1)
    have := hL e he
    have q := ed_eq G e he
    obtain ⟨g0, g1, g2, g3, g4⟩ := this
    unfold DD BB
    rcases h with ⟨a, b⟩ | ⟨a, b⟩
    · refine ⟨by omega, by omega, .inr ⟨by omega, ?_, ?_⟩⟩
      · rw [← b, q]; exact a
      · rw [hd, ← b, q]
    · have qa : ed L v = e := by rw [← a]; exact q
      refine ⟨by omega, by omega, .inl ⟨by omega, ?_, ?_⟩⟩
      · simp only [qa]; exact b.symm
      · rw [hd, ← b, qa]

theorem DD_le (n : Nat) (hn : n ≤ 16) (L : List S71) (hL : ∀ e ∈ L, GE n e) (z v : Int) (z0 : 0 ≤ z) (z1 : z < n) (v0 : 0 ≤ v) (v1 : v < n) : DD n L z v ≤ 320 := by
  have := (tab_done n L z z0 z1 hL).st.bnd v v0 v1
  unfold DD
  omega

theorem count_one (p : S71 → Bool) : ∀ (L : List S71), Sorted L → ∀ e ∈ L, p e = true → (∀ x ∈ L, p x = true → x = e) → L.countP p = 1
  | [], _, e, he, _, _ => by cases he
  | a :: L, hs, e, he, hp, h => by
    unfold Sorted at hs
    rw [List.pairwise_cons] at hs
    have irr : ∀ x : S71, ltE x x = true → False := fun x q => by rw [ltE_iff] at q; omega
    rw [List.countP_cons]
    rcases List.mem_cons.1 he with rfl | he
    · rw [if_pos hp, List.countP_eq_zero.2 (fun x hx q => by
        have := h x (List.mem_cons_of_mem _ hx) q
        subst this
        exact irr _ (hs.1 _ hx))]
    · have ha : ¬ p a = true := fun q => by
        have := h a List.mem_cons_self q
        subst this
        exact irr _ (hs.1 _ he)
      rw [if_neg ha, count_one p L hs.2 e he hp (fun x hx => h x (List.mem_cons_of_mem _ hx))]

theorem max_of (f : Int → Int) : ∀ n : Nat, 1 ≤ n → ∃ s : Int, 0 ≤ s ∧ s < n ∧ ∀ i : Int, 0 ≤ i → i < n → f i ≤ f s
  | 0, h => by omega
  | 1, _ => ⟨0, by omega, by omega, fun i i0 i1 => by rw [show i = 0 by omega]; omega⟩
  | n + 2, _ => by
    obtain ⟨s, s0, s1, h⟩ := max_of f (n + 1) (by omega)
    by_cases q : f s ≤ f ((n + 1 : Nat) : Int)
    · refine ⟨((n + 1 : Nat) : Int), by omega, by omega, fun i i0 i1 => ?_⟩
      by_cases e : i = ((n + 1 : Nat) : Int)
      · rw [e]; omega
      · have := h i i0 (by omega); omega
    · refine ⟨s, s0, by omega, fun i i0 i1 => ?_⟩
      by_cases e : i = ((n + 1 : Nat) : Int)
      · rw [e]; omega
      · exact h i i0 (by omega)

theorem TMet.far {n : Int} {p l : Int → Int} {D B : Int → Int → Int} (M : TMet n p l D B) (z v : Int) (z0 : 0 ≤ z) (z1 : z < n) (v0 : 0 ≤ v) (v1 : v < n) (h : v ≠ z) : 1 ≤ D z v := by
  obtain ⟨b0, b1, k⟩ := M.step z v z0 z1 v0 v1 h
  rcases k with ⟨k0, k1, k2⟩ | ⟨k0, k1, k2⟩
  · have q := M.pr v k0 v1
    have := M.pos z (p v) z0 z1 q.1 (by omega)
    omega
  · have q := M.pr _ k0 b1
    have := M.pos z (B z v) z0 z1 b0 b1
    omega

/-- The node farthest from another is a leaf. -/
theorem far_leaf (n : Nat) (L : List S71) (G : Grown n L) (M : TMet (n : Int) (fun v => (ed L v).f0) (fun v => (ed L v).f2) (DD n L) (BB n L)) (z s : Int) (z0 : 0 ≤ z) (z1 : z < n) (s0 : 0 ≤ s) (s1 : s < n) (hz : s ≠ z) (hs : ∀ i : Int, 0 ≤ i → i < n → DD n L z i ≤ DD n L z s) : dg L s = 1 := by
  have key : ∀ e ∈ L, (e.f0 = s ∨ e.f1 = s) → (e.f1 = s ∧ BB n L z s = e.f0) ∨ (e.f0 = s ∧ BB n L z s = e.f1) := by
    intro e he h
    have g := grown_ge G e he
    obtain ⟨g0, g1, g2, g3, g4⟩ := g
    have f := M.edge z e.f1 z0 z1 (by omega) (by omega)
    simp only [ed_eq G e he] at f
    rcases h with h | h
    · have := hs e.f1 (by omega) (by omega)
      rw [h] at f
      rcases f with f | f
      · omega
      · exact .inr ⟨h, f.1⟩
    · have := hs e.f0 (by omega) (by omega)
      rw [h] at f
      rcases f with f | f
      · exact .inl ⟨h, f.1⟩
      · omega
  obtain ⟨b0, b1, k⟩ := M.step z s z0 z1 s0 s1 hz
  obtain ⟨e, he, hse⟩ : ∃ e ∈ L, e.f0 = s ∨ e.f1 = s := by
    rcases k with ⟨k0, _⟩ | ⟨k0, k1, _⟩
    · obtain ⟨x, hx, q⟩ := G.all s.toNat (by omega) (by omega)
      exact ⟨x, hx, .inr (by omega)⟩
    · obtain ⟨x, hx, q⟩ := G.all (BB n L z s).toNat (by omega) (by omega)
      have q' : x.f1 = BB n L z s := by omega
      refine ⟨x, hx, .inl ?_⟩
      rw [← q', ed_eq G x hx] at k1
      exact k1
  unfold dg
  refine count_one _ L G.srt e he (by simpa using hse) (fun x hx hsx => G.one x hx e he ?_)
  simp only [decide_eq_true_iff] at hsx
  have ge := grown_ge G e he
  have gx := grown_ge G x hx
  unfold GE at ge gx
  rcases key e he hse with a | a <;> rcases key x hx hsx with b | b <;> omega

theorem pick_acc (p : Nat → Bool) (x : Int) : ∀ (d i : Nat) (acc : List Int), x ∈ acc → x ∈ pick p d i acc
  | 0, i, acc, h => h
  | d + 1, i, acc, h => by
    unfold pick
    split
    · exact pick_acc p x d (i + 1) _ (List.mem_append_left _ h)
    · exact pick_acc p x d (i + 1) _ h

theorem pick_has (p : Nat → Bool) (v : Nat) (hp : p v = true) : ∀ (d i : Nat) (acc : List Int), i ≤ v → v < i + d → (v : Int) ∈ pick p d i acc
  | 0, i, acc, h0, h1 => by omega
  | d + 1, i, acc, h0, h1 => by
    unfold pick
    by_cases e : i = v
    · subst e
      rw [if_pos hp]
      exact pick_acc p _ d (i + 1) _ (List.mem_append_right _ (List.mem_singleton.2 rfl))
    · split
      · exact pick_has p v hp d (i + 1) _ (by omega) (by omega)
      · exact pick_has p v hp d (i + 1) _ (by omega) (by omega)

theorem two_long {l : List Int} {a b : Int} (ha : a ∈ l) (hb : b ∈ l) (h : a ≠ b) : 2 ≤ l.length := by
  match l, ha, hb with
  | [x], ha, hb => exact absurd ((List.mem_singleton.1 ha).trans (List.mem_singleton.1 hb).symm) h
  | _ :: _ :: _, _, _ => simp

theorem leaves_two (n : Nat) (L : List S71) (h2 : 2 ≤ n) (G : Grown n L) (M : TMet (n : Int) (fun v => (ed L v).f0) (fun v => (ed L v).f2) (DD n L) (BB n L)) : 2 ≤ (leavesL n L).length := by
  have is : ∀ s : Int, 0 ≤ s → s < n → dg L s = 1 → s ∈ leavesL n L := by
    intro s s0 s1 h
    have e : s = (s.toNat : Int) := by omega
    rw [e] at h ⊢
    exact pick_has (isLeaf L) s.toNat (by unfold isLeaf; simpa using h) n 0 [] (by omega) (by omega)
  have next : ∀ z : Int, 0 ≤ z → z < n → ∃ s : Int, 0 ≤ s ∧ s < n ∧ s ≠ z ∧ dg L s = 1 := by
    intro z z0 z1
    obtain ⟨s, s0, s1, h⟩ := max_of (DD n L z) n (by omega)
    have hz : s ≠ z := by
      intro e
      subst e
      have q := M.zero s s0 s1
      by_cases c : s = 0
      · have := M.far s 1 s0 s1 (by omega) (by omega) (by omega)
        have := h 1 (by omega) (by omega)
        omega
      · have := M.far s 0 s0 s1 (by omega) (by omega) (by omega)
        have := h 0 (by omega) (by omega)
        omega
    exact ⟨s, s0, s1, hz, far_leaf n L G M z s z0 z1 s0 s1 hz h⟩
  obtain ⟨s, s0, s1, _, h⟩ := next 0 (by omega) (by omega)
  obtain ⟨t, t0, t1, ht, g⟩ := next s s0 s1
  exact two_long (is t t0 t1 g) (is s s0 s1 h) ht
end Go.Proofs.YtkimeoknckohfaaDoor.R
