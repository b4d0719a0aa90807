/- What the search finds are the solutions, in order. -/
import Derived.Test.YtiilgicmdnllbaaR1SvH
namespace Go.Proofs.Ytiilgicmdnllbaa.R
open Go.Proofs.Ytiilgicmdnllbaa.R1

def exts : List Int → List (List Int)
  | [] => [[]]
  | t :: r => bif t == 0 then (exts r).flatMap fun l => [-1 :: l, 0 :: l, 1 :: l] else (exts r).map (t :: ·)

def chkm (n : Nat) : Bool := (tri n).all fun t => !decide (H (n : Int) t < 0) || (exts t).all fun u => decide (H (n : Int) u < 0)
theorem chkm1 : chkm 1 = true := by kernel_rfl
theorem chkm2 : chkm 2 = true := by kernel_rfl
theorem chkm3 : chkm 3 = true := by kernel_rfl
theorem chkm4 : chkm 4 = true := by kernel_rfl

theorem H_mono {kd : Int} (h1 : 1 ≤ kd) (h4 : kd ≤ 4) {ts us : List Int} (hl : (ts.length : Int) = kd) (ht : ∀ x ∈ ts, x = -1 ∨ x = 0 ∨ x = 1) (hu : us ∈ exts ts) (h : H kd ts < 0) : H kd us < 0 := by
  have key : chkm ts.length = true := by
    have : ts.length = 1 ∨ ts.length = 2 ∨ ts.length = 3 ∨ ts.length = 4 := by omega
    rcases this with e | e | e | e <;> rw [e]
    · exact chkm1
    · exact chkm2
    · exact chkm3
    · exact chkm4
  have := List.all_eq_true.1 key ts (mem_tri ht)
  rw [hl, decide_eq_true h] at this
  exact of_decide_eq_true (List.all_eq_true.1 this us hu)

/-- What is decided in the one is so in the other. -/
def Ext (n : Nat) (a b : List Int) : Prop := ∀ v : Int, 0 ≤ v → v < n → vat a v ≠ 0 → vat b v = vat a v

theorem tms_exts {n : Nat} {a b : List Int} (ha : Vok n a) (hb : Vok n b) (he : Ext n a b) : ∀ {vs ss : List Int}, (∀ x ∈ vs, 0 ≤ x ∧ x < n) → (∀ x ∈ ss, x = 1 ∨ x = -1) → tms b vs ss ∈ exts (tms a vs ss)
  | [], ss, _, _ => List.mem_singleton.2 rfl
  | v :: vs, [], _, _ => List.mem_singleton.2 rfl
  | v :: vs, s :: ss, h1, h2 => by
    have ih := tms_exts ha hb he (vs := vs) (ss := ss) (fun x hx => h1 x (List.mem_cons.2 (.inr hx))) (fun x hx => h2 x (List.mem_cons.2 (.inr hx)))
    obtain ⟨b0, b1⟩ := h1 v (List.mem_cons.2 (.inl rfl))
    obtain ⟨_, _, x3⟩ := vat_some ha b0 b1
    obtain ⟨_, _, y3⟩ := vat_some hb b0 b1
    have hs := h2 s (List.mem_cons.2 (.inl rfl))
    obtain ⟨u1, u2⟩ := term_tri y3 hs
    obtain ⟨t1, t2⟩ := term_tri x3 hs
    simp only [tms, exts]
    by_cases hx : vat a v = 0
    · rw [show (wr .i64 (vat a v * s) == 0) = true from beq_iff_eq.2 (t2.2 hx)]
      refine List.mem_flatMap.2 ⟨_, ih, ?_⟩
      rcases u1 with e | e | e <;> rw [e] <;> simp
    · rw [show (wr .i64 (vat a v * s) == 0) = false from beq_eq_false_iff_ne.2 fun h => hx (t2.1 h)]
      refine List.mem_map.2 ⟨_, ih, ?_⟩
      rw [he v b0 b1 hx]

theorem hold_mono {n : Nat} {r : Ru} (hr : Rok n r) {a b : List Int} (ha : Vok n a) (hb : Vok n b) (he : Ext n a b) (h : hold r a < 0) : hold r b < 0 := by
  obtain ⟨t1, t2, _⟩ := tms_tri ha hr.v hr.s hr.ls.symm
  exact H_mono hr.k1 hr.k4 (by rw [t1]; exact hr.lv) t2 (tms_exts ha hb he hr.v hr.s) h

theorem vat_set {n : Nat} {a : List Int} (ha : a.length = n) {u v x : Int} (hu : 0 ≤ u) (hu1 : u < n) (hv : 0 ≤ v) : vat (a.set v.toNat x) u = if u = v then x else vat a u := by
  obtain ⟨y, e1, e2⟩ := getI_some (l := a.set v.toNat x) hu (by rw [List.length_set, ha]; exact hu1)
  obtain ⟨z, f1, f2⟩ := getI_some (l := a) hu (by rw [ha]; exact hu1)
  unfold vat
  rw [e1, f1]
  simp only [Option.getD_some]
  rw [List.getElem?_set] at e2
  by_cases h : u = v
  · subst h
    rw [if_pos rfl] at e2 ⊢
    rw [if_pos (by omega)] at e2
    exact (Option.some.inj e2).symm
  · rw [if_neg (by omega)] at e2
    rw [if_neg h]
    rw [f2] at e2
    exact (Option.some.inj e2).symm

theorem Ext.refl {n : Nat} (a : List Int) : Ext n a a := fun _ _ _ _ => rfl
theorem Ext.trans {n : Nat} {a b c : List Int} (h1 : Ext n a b) (h2 : Ext n b c) : Ext n a c := fun v h0 hv h => by
  have e := h1 v h0 hv h
  rw [h2 v h0 hv (by rw [e]; exact h), e]

theorem Ext.set {n : Nat} {a : List Int} (ha : a.length = n) {v x : Int} (hv : 0 ≤ v) (h0 : vat a v = 0) : Ext n a (a.set v.toNat x) := fun u u0 u1 h => by
  rw [vat_set ha u0 u1 hv, if_neg (fun e => h (by rw [e]; exact h0))]

theorem Ext.of_set {n : Nat} {a b : List Int} (ha : a.length = n) {v x : Int} (hv : 0 ≤ v) (he : Ext n a b) (h : vat b v = x) : Ext n (a.set v.toNat x) b := fun u u0 u1 q => by
  rw [vat_set ha u0 u1 hv] at q ⊢
  by_cases e : u = v
  · rw [if_pos e, e, h]
  · rw [if_neg e] at q ⊢
    exact he u u0 u1 q

structure Sol (n : Nat) (rules : List Ru) (x : List Int) : Prop where
  v : Vok n x
  z : ∀ v : Int, 0 ≤ v → v < n → vat x v ≠ 0
  h : ∀ r ∈ rules, 0 ≤ hold r x

theorem Sol.unit {n : Nat} {rules : List Ru} {x : List Int} (h : Sol n rules x) {v : Int} (h0 : 0 ≤ v) (h1 : v < n) : vat x v = 1 ∨ vat x v = -1 := by
  obtain ⟨_, _, t⟩ := vat_some h.v h0 h1
  have := h.z v h0 h1
  omega

theorem chain_ext {n : Nat} {rules : List Ru} : ∀ {st : List (Int × (Int × Int))} {a w : List Int}, Vok n a → Chain n rules a st w → Ext n a w
  | [], a, w, ha, h => by cases h; exact .refl a
  | p :: st, a, w, ha, ⟨_, ⟨b0, b1, b2, b3⟩, h⟩ => by
    have hx : p.2.2 = -1 ∨ p.2.2 = 0 ∨ p.2.2 = 1 := by omega
    exact (Ext.set ha.l b0 b2).trans (chain_ext (ha.set p.2.1.toNat hx) h)

theorem chain_sol {n : Nat} {rules : List Ru} (hR : ∀ r ∈ rules, Rok n r) {x : List Int} (hx : Sol n rules x) : ∀ {st : List (Int × (Int × Int))} {a w : List Int}, Vok n a → Chain n rules a st w → Ext n a x → Ext n w x
  | [], a, w, ha, h, he => by cases h; exact he
  | p :: st, a, w, ha, ⟨⟨i, r, _, r1, r2⟩, ⟨b0, b1, b2, b3⟩, h⟩, he => by
    have hp : p.2.2 = -1 ∨ p.2.2 = 0 ∨ p.2.2 = 1 := by omega
    have hp2 : -p.2.2 = -1 ∨ -p.2.2 = 0 ∨ -p.2.2 = 1 := by omega
    have hm := List.mem_of_getElem? r1
    refine chain_sol hR hx (ha.set p.2.1.toNat hp) h (he.of_set ha.l b0 ?_)
    have hu := hx.unit b0 b1
    by_cases q : vat x p.2.1 = p.2.2
    · exact q
    · have := hold_mono (hR r hm) (ha.set p.2.1.toNat hp2) hx.v (he.of_set ha.l b0 (by omega)) r2
      have := hx.h r hm
      omega

theorem stop_sol {n : Nat} {rules : List Ru} (hR : ∀ r ∈ rules, Rok n r) {x w : List Int} (hx : Sol n rules x) (hw : Vok n w) {bad : Int} (hb : 0 ≤ bad) (h : Stop rules bad w) (he : Ext n w x) : False := by
  rcases h with ⟨rfl, _⟩ | ⟨i, r, _, r1, r2⟩
  · omega
  · have hm := List.mem_of_getElem? r1
    have := hold_mono (hR r hm) hw hx.v he r2
    have := hx.h r hm
    omega

theorem stop_holds {rules : List Ru} {w : List Int} (h : Stop rules (-1) w) : ∀ r ∈ rules, 0 ≤ hold r w := by
  rcases h with ⟨_, h⟩ | ⟨i, r, h, _⟩
  · exact h
  · omega

/-- The order of values: 1 comes first. -/
def before (n : Nat) (x y : List Int) : Prop := ∃ i : Nat, i < n ∧ (∀ q : Nat, q < i → vat x q = vat y q) ∧ vat y i < vat x i

theorem before_asymm {n : Nat} {x y : List Int} (h1 : before n x y) (h2 : before n y x) : False := by
  obtain ⟨i, _, a1, a2⟩ := h1
  obtain ⟨j, _, b1, b2⟩ := h2
  rcases Nat.lt_trichotomy i j with h | h | h
  · have := b1 i h; omega
  · subst h; omega
  · have := a1 j h; omega

theorem vat_nat {a : List Int} {v : Nat} {x : Int} (h : a[v]? = some x) : vat a (v : Int) = x := by
  unfold vat getI
  rw [if_pos (show (0 : Int) ≤ (v : Int) by omega), Int.toNat_natCast, h]; rfl

theorem vat_get {n : Nat} {a : List Int} (ha : a.length = n) {v : Nat} (h : v < n) : a[v]? = some (vat a (v : Int)) := by
  have e := List.getElem?_eq_getElem (l := a) (i := v) (by omega)
  rw [vat_nat e]; exact e

theorem vat_inj {n : Nat} {a b : List Int} (ha : a.length = n) (hb : b.length = n) (h : ∀ v : Int, 0 ≤ v → v < n → vat a v = vat b v) : a = b := by
  apply List.ext_getElem?
  intro i
  by_cases hi : i < n
  · rw [vat_get ha hi, vat_get hb hi, h i (by omega) (by omega)]
  · rw [List.getElem?_eq_none (by omega), List.getElem?_eq_none (by omega)]

theorem two_before {n : Nat} {w g x : List Int} {v : Nat} (hv : v < n) (hw : ∀ q, q < v → vat w (q : Int) ≠ 0) (h1 : Ext n w g) (h2 : Ext n w x) (g1 : vat g (v : Int) = 1) (x1 : vat x (v : Int) = -1) : before n g x :=
  ⟨v, hv, fun q hq => by rw [h1 q (by omega) (by omega) (hw q hq), h2 q (by omega) (by omega) (hw q hq)], by omega⟩

structure Sem (n : Nat) (rules : List Ru) (B : Int) (M c : Nat) (vals : List Int) (n0 : Int) (b : Bool) (n1 : Int) (G : List (List Int)) : Prop where
  s : ∀ g ∈ G, Sol n rules g ∧ Ext n vals g
  o : G.Pairwise (before n)
  a : ∀ x, Sol n rules x → Ext n vals x → x ∈ G ∨ (b = false ∧ ∀ g ∈ G, before n g x)
  f : b = false → n1 > B ∨ M ≤ c + G.length
  t : b = true → n1 ≤ B ∧ (c < M → c + G.length < M)
  n : n0 + 1 ≤ n1

theorem srch_sem {n : Nat} {rules : List Ru} (hR : ∀ r ∈ rules, Rok n r) {B : Int} {M c : Nat} {vals : List Int} {n0 : Int} {b : Bool} {n1 : Int} {G : List (List Int)} (h : Srch n rules B M c vals n0 b n1 G) : Vok n vals → Sem n rules B M c vals n0 b n1 G := by
  induction h with
  | spent h => exact fun hv => ⟨fun g hg => (by cases hg), .nil, fun x _ _ => .inr ⟨rfl, fun g hg => (by cases hg)⟩, fun _ => .inl h, fun h => (by cases h), by omega⟩
  | clash h hP hb =>
    intro hv
    obtain ⟨_, p2, p3, p4⟩ := hP
    exact ⟨fun g hg => (by cases hg), .nil, fun x hx he => (stop_sol hR hx p2 hb p4 (chain_sol hR hx hv p3 he)).elim, fun h => (by cases h), fun _ => ⟨h, fun q => by simpa using q⟩, by omega⟩
  | @found c vals n0 w st h hP hz =>
    intro hv
    obtain ⟨_, p2, p3, p4⟩ := hP
    have hz2 : ∀ v : Int, 0 ≤ v → v < n → vat w v ≠ 0 := fun v h0 h1 => by
      obtain ⟨_, e2, _⟩ := vat_some p2 h0 h1
      exact hz _ (List.mem_of_getElem? e2)
    refine ⟨fun g hg => ?_, List.pairwise_singleton _ _, fun x hx he => .inl ?_, fun h => .inr ?_, fun h => ⟨by omega, fun _ => ?_⟩, by omega⟩
    · rw [List.mem_singleton.1 hg]
      exact ⟨⟨p2, hz2, stop_holds p4⟩, chain_ext hv p3⟩
    · have := chain_sol hR hx hv p3 he
      exact List.mem_singleton.2 (vat_inj hx.v.l p2.l fun v h0 h1 => this v h0 h1 (hz2 v h0 h1))
    · have := of_decide_eq_false h
      simp only [List.length_singleton]; omega
    · have := of_decide_eq_true h
      simp only [List.length_singleton]; omega
  | @stop c vals n0 w st v n1 G h hP hv0 hf hs ih =>
    intro hv
    obtain ⟨_, p2, p3, p4⟩ := hP
    have hvl : v < n := by
      rcases Nat.lt_or_ge v n with q | q
      · exact q
      · rw [List.getElem?_eq_none (by rw [p2.l]; exact q)] at hv0; cases hv0
    have hw : ∀ q, q < v → vat w (q : Int) ≠ 0 := fun q hq => hf q hq _ (vat_get p2.l (by omega))
    have I := ih (p2.set v (.inr (.inr rfl)))
    have e0 := vat_nat hv0
    have he := Ext.set (n := n) (x := 1) p2.l (by omega) e0
    rw [Int.toNat_natCast] at he
    have hone : ∀ g ∈ G, vat g (v : Int) = 1 ∧ Ext n w g := fun g hg => by
      have k1 := (I.s g hg).2
      refine ⟨?_, he.trans k1⟩
      have k2 := vat_set (n := n) (u := v) (v := v) (x := 1) p2.l (by omega) (by omega) (by omega)
      rw [if_pos rfl, Int.toNat_natCast] at k2
      rw [k1 v (by omega) (by omega) (by rw [k2]; decide), k2]
    refine ⟨fun g hg => ⟨(I.s g hg).1, (chain_ext hv p3).trans (hone g hg).2⟩, I.o, fun x hx hex => ?_, I.f, I.t, by have := I.n; omega⟩
    have hxw := chain_sol hR hx hv p3 hex
    rcases hx.unit (v := v) (by omega) (by omega) with q | q
    · have := hxw.of_set p2.l (show (0 : Int) ≤ (v : Int) by omega) q
      rw [Int.toNat_natCast] at this
      exact I.a x hx this
    · exact .inr ⟨rfl, fun g hg => two_before hvl hw (hone g hg).2 hxw (hone g hg).1 q⟩
  | @both c vals n0 w st v n1 G b n2 G2 h hP hv0 hf hs hs2 ih ih2 =>
    intro hv
    obtain ⟨_, p2, p3, p4⟩ := hP
    have hvl : v < n := by
      rcases Nat.lt_or_ge v n with q | q
      · exact q
      · rw [List.getElem?_eq_none (by rw [p2.l]; exact q)] at hv0; cases hv0
    have hw : ∀ q, q < v → vat w (q : Int) ≠ 0 := fun q hq => hf q hq _ (vat_get p2.l (by omega))
    have I := ih (p2.set v (.inr (.inr rfl)))
    have J := ih2 (p2.set v (.inl rfl))
    have e0 := vat_nat hv0
    have he := Ext.set (n := n) (x := 1) p2.l (by omega) e0
    have he2 := Ext.set (n := n) (x := -1) p2.l (by omega) e0
    rw [Int.toNat_natCast] at he he2
    have hone : ∀ g ∈ G, vat g (v : Int) = 1 ∧ Ext n w g := fun g hg => by
      have k1 := (I.s g hg).2
      refine ⟨?_, he.trans k1⟩
      have k2 := vat_set (n := n) (u := v) (v := v) (x := 1) p2.l (by omega) (by omega) (by omega)
      rw [if_pos rfl, Int.toNat_natCast] at k2
      rw [k1 v (by omega) (by omega) (by rw [k2]; decide), k2]
    have htwo : ∀ g ∈ G2, vat g (v : Int) = -1 ∧ Ext n w g := fun g hg => by
      have k1 := (J.s g hg).2
      refine ⟨?_, he2.trans k1⟩
      have k2 := vat_set (n := n) (u := v) (v := v) (x := -1) p2.l (by omega) (by omega) (by omega)
      rw [if_pos rfl, Int.toNat_natCast] at k2
      rw [k1 v (by omega) (by omega) (by rw [k2]; decide), k2]
    refine ⟨fun g hg => ?_, List.pairwise_append.2 ⟨I.o, J.o, fun g hg x hx => two_before hvl hw (hone g hg).2 (htwo x hx).2 (hone g hg).1 (htwo x hx).1⟩, fun x hx hex => ?_, fun hb => ?_, fun hb => ?_, by have := I.n; have := J.n; omega⟩
    · rcases List.mem_append.1 hg with hg | hg
      · exact ⟨(I.s g hg).1, (chain_ext hv p3).trans (hone g hg).2⟩
      · exact ⟨(J.s g hg).1, (chain_ext hv p3).trans (htwo g hg).2⟩
    · have hxw := chain_sol hR hx hv p3 hex
      rcases hx.unit (v := v) (by omega) (by omega) with q | q
      · have := hxw.of_set p2.l (show (0 : Int) ≤ (v : Int) by omega) q
        rw [Int.toNat_natCast] at this
        rcases I.a x hx this with k | ⟨k, _⟩
        · exact .inl (List.mem_append.2 (.inl k))
        · cases k
      · have := hxw.of_set p2.l (show (0 : Int) ≤ (v : Int) by omega) q
        rw [Int.toNat_natCast] at this
        rcases J.a x hx this with k | ⟨k, k2⟩
        · exact .inl (List.mem_append.2 (.inr k))
        · refine .inr ⟨k, fun g hg => ?_⟩
          rcases List.mem_append.1 hg with hg | hg
          · exact two_before hvl hw (hone g hg).2 hxw (hone g hg).1 q
          · exact k2 g hg
    · rcases J.f hb with k | k
      · exact .inl k
      · exact .inr (by rw [List.length_append]; omega)
    · obtain ⟨k1, k2⟩ := J.t hb
      exact ⟨k1, fun q => by have := k2 ((I.t rfl).2 q); rw [List.length_append]; omega⟩

theorem Pr.same {n : Nat} {rules : List Ru} {vals : List Int} {b1 b2 : Int} {w1 w2 : List Int} {s1 s2 : List (Int × (Int × Int))} (h1 : Pr n rules vals b1 w1 s1) (h2 : Pr n rules vals b2 w2 s2) : b1 = b2 ∧ w1 = w2 := by
  have := (h1.1 3300 (Nat.le_refl _)).symm.trans (h2.1 3300 (Nat.le_refl _))
  simp only [Option.some.injEq, Prod.mk.injEq, true_and, and_true] at this
  exact ⟨this.1, this.2.1⟩

theorem first_open {w : List Int} {v u : Nat} (h1 : w[v]? = some 0) (h2 : ∀ q, q < v → ∀ x, w[q]? = some x → x ≠ 0) (h3 : w[u]? = some 0) (h4 : ∀ q, q < u → ∀ x, w[q]? = some x → x ≠ 0) : v = u := by
  rcases Nat.lt_trichotomy v u with h | h | h
  · exact absurd rfl (h4 v h 0 h1)
  · exact h
  · exact absurd rfl (h2 u h 0 h3)

/-- A search for one solution takes no more steps than another one. -/
theorem srch_less {n : Nat} {rules : List Ru} (hR : ∀ r ∈ rules, Rok n r) {B : Int} {c : Nat} {vals : List Int} {n0 : Int} {b : Bool} {n1 : Int} {G : List (List Int)} (h : Srch n rules B 1 c vals n0 b n1 G) : c = 0 → Vok n vals → ∀ {M d : Nat} {b2 : Bool} {n2 : Int} {G2 : List (List Int)}, Srch n rules B M d vals n0 b2 n2 G2 → (b = true → b2 = true ∧ n2 = n1) ∧ n1 ≤ n2 := by
  induction h with
  | spent h =>
    intro _ hv M d b2 n2 G2 h2
    exact ⟨fun h => (by cases h), (srch_sem hR h2 hv).n⟩
  | @clash c vals n0 bad w st h hP hb =>
    intro _ hv M d b2 n2 G2 h2
    refine ⟨fun _ => ?_, (srch_sem hR h2 hv).n⟩
    cases h2 with
    | spent k => omega
    | clash _ _ _ => exact ⟨rfl, rfl⟩
    | found _ hP2 _ => have := (hP.same hP2).1; omega
    | stop _ hP2 _ _ _ => have := (hP.same hP2).1; omega
    | both _ hP2 _ _ _ _ => have := (hP.same hP2).1; omega
  | @found c vals n0 w st h hP hz =>
    intro hc hv M d b2 n2 G2 h2
    refine ⟨fun k => ?_, (srch_sem hR h2 hv).n⟩
    have := of_decide_eq_true k
    omega
  | @stop c vals n0 w st v n1 G h hP hv0 hf hs ih =>
    intro hc hv M d b2 n2 G2 h2
    refine ⟨fun k => (by cases k), ?_⟩
    cases h2 with
    | spent k => omega
    | clash _ hP2 k => have := (hP.same hP2).1; omega
    | found _ hP2 k =>
      have e := (hP.same hP2).2
      subst e
      exact absurd rfl (k 0 (List.mem_of_getElem? hv0))
    | stop _ hP2 k1 k2 k3 =>
      have e := (hP.same hP2).2
      subst e
      have e := first_open hv0 hf k1 k2
      subst e
      exact (ih hc (hP.2.1.set v (.inr (.inr rfl))) k3).2
    | both _ hP2 k1 k2 k3 k4 =>
      have e := (hP.same hP2).2
      subst e
      have e := first_open hv0 hf k1 k2
      subst e
      have := (ih hc (hP.2.1.set v (.inr (.inr rfl))) k3).2
      have := (srch_sem hR k4 (hP.2.1.set v (.inl rfl))).n
      omega
  | @both c vals n0 w st v n1 G b n2 G2 h hP hv0 hf hs hs2 ih ih2 =>
    intro hc hv M d b2 n3 G3 h2
    have v1 : Vok n (w.set v 1) := hP.2.1.set v (.inr (.inr rfl))
    have v2 : Vok n (w.set v (-1)) := hP.2.1.set v (.inl rfl)
    have hG : c + G.length = 0 := by have := ((srch_sem hR hs v1).t rfl).2 (by omega); omega
    cases h2 with
    | spent k => omega
    | clash _ hP2 k => have := (hP.same hP2).1; omega
    | found _ hP2 k =>
      have e := (hP.same hP2).2
      subst e
      exact absurd rfl (k 0 (List.mem_of_getElem? hv0))
    | stop _ hP2 k1 k2 k3 =>
      have e := (hP.same hP2).2
      subst e
      have e := first_open hv0 hf k1 k2
      subst e
      have := ((ih hc v1 k3).1 rfl).1
      cases this
    | both _ hP2 k1 k2 k3 k4 =>
      have e := (hP.same hP2).2
      subst e
      have e := first_open hv0 hf k1 k2
      subst e
      obtain ⟨_, e⟩ := (ih hc v1 k3).1 rfl
      subst e
      exact ih2 hG v2 k4
end Go.Proofs.Ytiilgicmdnllbaa.R
