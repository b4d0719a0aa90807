/- Elements with rows of their own. -/
import Derived.Test.YtkimeoknckohfaaDoorR1Heap
namespace Go.Proofs.YtkimeoknckohfaaDoor.R1

section
variable {S S' : Nat → Prop} {w w' : World} {φ : Nat → Value} {h : Nat → B}

theorem blt_of {a b : Nat} (h : a < b) : Nat.blt a b = true := by rw [Nat.blt_eq]; exact h

theorem All2.of_get {α β : Type} {r : α → β → Prop} : ∀ {l : List α} {m : List β}, l.length = m.length → (∀ (i : Nat) a b, l[i]? = some a → m[i]? = some b → r a b) → All2 r l m
  | [], [], _, _ => trivial
  | a :: l, b :: m, hl, h => ⟨h 0 a b rfl rfl, All2.of_get (by simpa using hl) fun i x y hx hy => h (i + 1) x y (by simpa using hx) (by simpa using hy)⟩
  | [], _ :: _, hl, _ => by cases hl
  | _ :: _, [], hl, _ => by cases hl

theorem All2.at {α β : Type} {r : α → β → Prop} {l : List α} {m : List β} (h : All2 r l m) {i : Nat} {a : α} {b : β} (ha : l[i]? = some a) (hb : m[i]? = some b) : r a b := by
  obtain ⟨b', h1, h2⟩ := h.get ha
  rw [hb] at h1; injection h1 with h1; subst h1; exact h2

theorem All2.set {α β : Type} {r : α → β → Prop} : ∀ {l : List α} {m : List β} (i : Nat) {a : α} {b : β}, All2 r l m → r a b → All2 r (l.set i a) (m.set i b)
  | [], [], _, _, _, _, _ => trivial
  | _ :: _, _ :: _, 0, _, _, h, hr => ⟨hr, h.2⟩
  | _ :: _, _ :: _, i + 1, _, _, h, hr => ⟨h.1, All2.set i h.2 hr⟩
  | [], _ :: _, _, _, _, h, _ => h.elim
  | _ :: _, [], _, _, _, h, _ => h.elim

theorem O.leafs_length : ∀ {o : O}, o.leafs.length = o.u.n := by
  intro o
  induction o with
  | d u => simp [O.leafs]
  | p a b iha ihb => simp [O.leafs, iha, ihb, U.n]
  | s t e _ => rfl

theorem getElem?_app {α : Type} {l r : List α} {n i : Nat} (hn : l.length = n) : (l ++ r)[i]? = if i < n then l[i]? else r[i - n]? := by
  subst hn
  split
  · rename_i hi; rw [List.getElem?_append_left hi]
  · rename_i hi; rw [List.getElem?_append_right (by omega)]

/-- The cells that are data. -/
theorem RepO.leaf : ∀ {o : O} {x : El o.u} {vs : List Value} {F : List Nat}, RepO S w o x vs F → ∀ {i : Nat} {c : C} {v : Value}, o.leafs[i]? = some true → (toCells o.u x)[i]? = some c → vs[i]? = some v → RelC S w φ h c v := by
  intro o
  induction o with
  | d u => rintro x vs F ⟨hr, _⟩ i c v _ hc hv; exact (relC_toCells hr).at hc hv
  | p a b iha ihb =>
    rintro x vs F ⟨v1, v2, F1, F2, rfl, _, h1, h2⟩ i c v hl hc hv
    simp only [O.leafs] at hl
    change (toCells a.u x.1 ++ toCells b.u x.2)[i]? = some c at hc
    rw [getElem?_app O.leafs_length] at hl
    rw [getElem?_app toCells_length] at hc
    rw [getElem?_app h1.length] at hv
    split at hl
    · rename_i q; rw [if_pos q] at hc hv; exact iha h1 hl hc hv
    · rename_i q; rw [if_neg q] at hc hv; exact ihb h2 hl hc hv
  | s t e _ => intro x vs F _ i c v hl; cases i <;> simp [O.leafs] at hl

theorem RepO.cells {o : O} {x : El o.u} {vs : List Value} {F : List Nat} (hr : RepO S w o x vs F) {off n : Nat} (hp : o.plain off n = true) : All2 (RelC S w φ h) (((toCells o.u x).drop off).take n) ((vs.drop off).take n) := by
  unfold O.plain at hp
  rw [Bool.and_eq_true, List.all_eq_true] at hp
  obtain ⟨h1, h2⟩ := hp
  have h2 := Nat.le_of_ble_eq_true h2
  rw [O.leafs_length] at h2
  refine All2.of_get (by simp [toCells_length, hr.length]) fun i c v hc hv => ?_
  rw [List.getElem?_take] at hc hv
  split at hc
  · rename_i hi
    rw [if_pos hi] at hv
    rw [List.getElem?_drop] at hc hv
    refine hr.leaf (i := off + i) ?_ hc hv
    have hlt : off + i < o.leafs.length := by rw [O.leafs_length]; omega
    have hm : o.leafs[off + i] ∈ (o.leafs.drop off).take n := by
      refine List.mem_of_getElem? (i := i) ?_
      rw [List.getElem?_take, if_pos hi, List.getElem?_drop, List.getElem?_eq_getElem hlt]
    have := h1 _ hm
    rw [List.getElem?_eq_getElem hlt]; simp only [id] at this; rw [this]
  · cases hc

theorem plain_rel {c : C} (hp : c.plain = true) {v : Value} (hr : RelC S w φ h c v) : RelC S w φ (fun _ => .free) c v := by
  cases c <;> first | exact hr | cases hp

theorem free_b {ok : Nat → Prop} : ∀ n, RelB S w φ (fun _ => .free) ok (φ n) ((fun _ => B.free) n) := fun _ => trivial

/-- One cell set anew. -/
theorem RepO.set : ∀ {o : O} {x y : El o.u} {vs : List Value} {F : List Nat} {off : Nat} {c : C} {v : Value}, RepO S w o x vs F → setAt o x off c = some y → RelC S w φ h c v → off < o.u.n ∧ RepO S w o y (vs.set off v) F := by
  intro o
  induction o with
  | d u =>
    rintro x y vs F off c v ⟨hr, rfl⟩ hs hc
    simp only [setAt] at hs
    cases hb : Nat.blt off u.n && c.plain with
    | false => rw [hb] at hs; cases hs
    | true =>
      rw [hb] at hs
      rw [Bool.and_eq_true, Nat.blt_eq] at hb
      have ha := (relC_toCells (φ := φ) (h := fun _ => .free) hr).set off (plain_rel hb.2 hc)
      exact ⟨hb.1, ⟨rep_datum (ok := fun _ => True) free_b (fun _ h => h) ha hs fun n _ hn => (by cases hn), rfl⟩⟩
  | p a b iha ihb =>
    rintro x y vs F off c v ⟨v1, v2, F1, F2, rfl, rfl, h1, h2⟩ hs hc
    simp only [setAt] at hs
    cases hb : Nat.blt off a.u.n with
    | true =>
      rw [hb] at hs
      simp only [cond_true] at hs
      split at hs
      · rename_i y1 e
        injection hs with hs; subst hs
        obtain ⟨k1, k2⟩ := iha h1 e hc
        refine ⟨by show off < a.u.n + b.u.n; omega, v1.set off v, v2, F1, F2, ?_, rfl, k2, h2⟩
        rw [List.set_append_left _ _ (by rw [h1.length]; exact k1)]
      · cases hs
    | false =>
      rw [hb] at hs
      simp only [cond_false] at hs
      have hge : a.u.n ≤ off := by
        refine Nat.le_of_not_lt fun q => ?_
        rw [blt_of q] at hb; cases hb
      split at hs
      · rename_i y1 e
        injection hs with hs; subst hs
        obtain ⟨k1, k2⟩ := ihb h2 e hc
        refine ⟨by show off < a.u.n + b.u.n; omega, v1, v2.set (off - a.u.n) v, F1, F2, ?_, rfl, h1, k2⟩
        rw [List.set_append_right _ _ (by rw [h1.length]; exact hge), h1.length]
      · cases hs
  | s t e _ => intro x y vs F off c v _ hs; cases hs

/-- One element of a row of such. -/
theorem RepOL.at {o : O} : ∀ {l : List (El o.u)} {vs : List Value} {F : List Nat}, RepOL (RepO S w o) l vs F → ∀ {i : Nat} {x : El o.u}, l[i]? = some x →
    ∃ v1 v2 v3 F1 F2 F3, vs = v1 ++ (v2 ++ v3) ∧ F = F1 ++ (F2 ++ F3) ∧ v1.length = i * o.u.n ∧ RepO S w o x v2 F2 ∧ RepOL (RepO S w o) (l.take i) v1 F1 ∧ RepOL (RepO S w o) (l.drop (i + 1)) v3 F3
  | [], _, _, _, i, x, h => by simp at h
  | y :: l, _, _, ⟨v1, v2, F1, F2, e, eF, h1, h2⟩, 0, x, h => by
    simp at h
    subst h
    exact ⟨[], v1, v2, [], F1, F2, by simpa using e, by simpa using eF, by simp, h1, ⟨rfl, rfl⟩, by simpa using h2⟩
  | y :: l, _, _, ⟨v1, v2, F1, F2, e, eF, h1, h2⟩, i + 1, x, h => by
    simp at h
    obtain ⟨a, b, c, A, B, D, rfl, rfl, hl, hr, ht, hd⟩ := RepOL.at h2 h
    subst e; subst eF
    exact ⟨v1 ++ a, b, c, F1 ++ A, B, D, by simp, by simp, by simp [hl, h1.length, Nat.add_mul, Nat.add_comm], hr, ⟨v1, a, F1, A, rfl, rfl, h1, ht⟩, by simpa using hd⟩

/-! ### Rows under names of their own -/
def rowVal : O → Value → List Nat → Value
  | .d _, v, _ => v
  | _, v, F => ghost v F

theorem OwnAt.slice {α : Type} {r : α → List Value → List Nat → Prop} {t n : Nat} {l : List α} {v : Value} {F : List Nat} (ho : OwnAt r w t n l v F) : ∃ A k c, v = .slice A k c := by
  obtain ⟨flat, F', _, how, _, _⟩ := ho
  rcases how.2 with ⟨rfl, _⟩ | ⟨g, cap, cur, rfl, _⟩
  · exact ⟨_, _, _, rfl⟩
  · exact ⟨_, _, _, rfl⟩

theorem RepOL.nilF {u : U} : ∀ {l : List (El u)} {vs : List Value} {F : List Nat}, RepOL (RepO S w (.d u)) l vs F → F = [] ∧ RepL (Rep S w u) l vs
  | [], _, _, ⟨h1, h2⟩ => ⟨h2, h1⟩
  | _ :: _, _, _, ⟨v1, v2, F1, F2, e1, e2, ⟨h1, h3⟩, h2⟩ => by
    obtain ⟨k1, k2⟩ := RepOL.nilF h2
    subst e2; subst h3; subst k1
    exact ⟨rfl, v1, v2, e1, h1, k2⟩

theorem RepOL.ofRepL {u : U} : ∀ {l : List (El u)} {vs : List Value}, RepL (Rep S w u) l vs → RepOL (RepO S w (.d u)) l vs []
  | [], _, h => ⟨h, rfl⟩
  | _ :: _, _, ⟨v1, v2, e, h1, h2⟩ => ⟨v1, v2, [], [], e, rfl, ⟨h1, rfl⟩, RepOL.ofRepL h2⟩

theorem rowVal_pv {e : O} {α : Type} {r : α → List Value → List Nat → Prop} {t n : Nat} {l : List α} {v : Value} {F : List Nat} (ho : OwnAt r w t n l v F) : pv (rowVal e v F) = v := by
  cases e with
  | d u => exact pv_slice ho.slice
  | p a b => exact pv_ghost v F
  | s t e => exact pv_ghost v F

theorem blk_pf {v : Value} {A : Option Addr} {k c : Nat} (h : v = .slice A k c) : pf v = (blk v).toList := by
  subst h; cases A <;> rfl

theorem rowVal_pf {e : O} {t : Nat} {l : List (El e.u)} {v : Value} {F : List Nat} (ho : OwnAt (RepO S w e) w t e.u.n l v F) : pf (rowVal e v F) = F := by
  cases e with
  | d u =>
    obtain ⟨A, k, c, hv⟩ := ho.slice
    obtain ⟨flat, F', _, how, hl, rfl⟩ := ho
    obtain ⟨rfl, _⟩ := RepOL.nilF hl
    show pf v = _
    rw [blk_pf hv]; simp
  | p a b => exact pf_ghost v F
  | s t e => exact pf_ghost v F

theorem rowOf_rel {ok : Nat → Prop} {e : O} {t : Nat} {l : List (El e.u)} {v : Value} {F : List Nat} (ho : OwnAt (RepO S w e) w t e.u.n l v F) (hn : F.Nodup) (hok : ∀ g ∈ F, ok g) : RelB S w φ h ok (rowVal e v F) (rowOf t e l) := by
  cases e with
  | d u =>
    have hpf := rowVal_pf ho
    obtain ⟨flat, F', h0, how, hl, rfl⟩ := ho
    obtain ⟨rfl, hl2⟩ := RepOL.nilF hl
    exact ⟨h0, flat, how, hl2, fun g hg => hok g (by unfold Bk at hg; rw [← hpf]; exact hg)⟩
  | p a b => exact ⟨v, F, ⟨pv_ghost v F, pf_ghost v F⟩, ho, hn, hok⟩
  | s t' e => exact ⟨v, F, ⟨pv_ghost v F, pf_ghost v F⟩, ho, hn, hok⟩

theorem rowOf_mut {t : Nat} {e : O} {l : List (El e.u)} : (rowOf t e l).mut = true := by cases e <;> rfl

theorem asRow_rel {ok : Nat → Prop} {t : Nat} {e : O} {b : B} {l : List (El e.u)} {v : Value} (ha : asRow t e b = some l) (hb : RelB S w φ h ok v b) : b.mut = true ∧ OwnAt (RepO S w e) w t e.u.n l (pv v) (pf v) ∧ (pf v).Nodup := by
  unfold asRow at ha
  split at ha
  · rename_i t' u l'
    cases ht : Nat.beq t' t with
    | false => rw [ht] at ha; cases ha
    | true =>
      rw [ht] at ha
      have := Nat.eq_of_beq_eq_true ht; subst this
      simp only [cond_true] at ha
      split at ha
      · rename_i q
        subst q
        injection ha with ha
        change l' = l at ha
        subst ha
        have hpv := pv_row hb
        obtain ⟨hn, flat, ho, hl, hok⟩ := hb
        have hsl : ∃ A k c, v = .slice A k c := by
          rcases ho.2 with ⟨rfl, _⟩ | ⟨g, cap, cur, rfl, _⟩
          · exact ⟨_, _, _, rfl⟩
          · exact ⟨_, _, _, rfl⟩
        obtain ⟨A, k, c, hv⟩ := hsl
        rw [hpv, blk_pf hv]
        refine ⟨rfl, ⟨flat, [], hn, ho, RepOL.ofRepL hl, by simp⟩, ?_⟩
        cases blk v <;> simp
      · cases ha
  · rename_i t' o l'
    cases ht : Nat.beq t' t with
    | false => rw [ht] at ha; cases ha
    | true =>
      rw [ht] at ha
      have := Nat.eq_of_beq_eq_true ht; subst this
      simp only [cond_true] at ha
      split at ha
      · rename_i q
        subst q
        injection ha with ha
        subst ha
        obtain ⟨s, F, h0, ho, hn, hok⟩ := hb
        rw [h0.1, h0.2]
        exact ⟨rfl, ho, hn⟩
      · cases ha
  · cases ha

/-- An element laid open, with the values of its rows' names. -/
def Opened (S : Nat → Prop) (w : World) : (o : O) → El o.u → List Value → List Nat → Nat → (Nat → Value) → Prop
  | .d u, x, vs, F, _, _ => Rep S w u x vs ∧ F = []
  | .p a b, x, vs, F, k, ψ => ∃ v1 v2 F1 F2, vs = v1 ++ v2 ∧ F = F1 ++ F2 ∧ Opened S w a x.1 v1 F1 k ψ ∧ Opened S w b x.2 v2 F2 (k + a.rows) ψ
  | .s t e, l, vs, F, k, ψ => ∃ v, vs = [v] ∧ OwnAt (RepO S w e) w t e.u.n l v F ∧ ψ k = rowVal e v F

theorem Opened.congr : ∀ {o : O} {x : El o.u} {vs : List Value} {F : List Nat} {k : Nat} {ψ ψ' : Nat → Value}, (∀ n, k ≤ n → n < k + o.rows → ψ' n = ψ n) → Opened S w o x vs F k ψ → Opened S w o x vs F k ψ' := by
  intro o
  induction o with
  | d u => intro x vs F k ψ ψ' _ h; exact h
  | p a b iha ihb =>
    rintro x vs F k ψ ψ' hq ⟨v1, v2, F1, F2, e1, e2, h1, h2⟩
    simp only [O.rows] at hq
    exact ⟨v1, v2, F1, F2, e1, e2, iha (fun n h1 h2 => hq n h1 (by omega)) h1, ihb (fun n h1 h2 => hq n (by omega) (by omega)) h2⟩
  | s t e _ =>
    rintro l vs F k ψ ψ' hq ⟨v, e1, ho, hv⟩
    exact ⟨v, e1, ho, by rw [hq k (Nat.le_refl k) (by simp [O.rows]), hv]⟩

theorem RepO.opened : ∀ {o : O} {x : El o.u} {vs : List Value} {F : List Nat} (k : Nat), RepO S w o x vs F → ∃ ψ, Opened S w o x vs F k ψ := by
  intro o
  induction o with
  | d u => intro x vs F k h; exact ⟨fun _ => undef, h⟩
  | p a b iha ihb =>
    rintro x vs F k ⟨v1, v2, F1, F2, e1, e2, h1, h2⟩
    obtain ⟨ψ1, k1⟩ := iha k h1
    obtain ⟨ψ2, k2⟩ := ihb (k + a.rows) h2
    refine ⟨fun n => if n < k + a.rows then ψ1 n else ψ2 n, v1, v2, F1, F2, e1, e2, k1.congr fun n _ hn => if_pos hn, k2.congr fun n hn _ => if_neg (by omega)⟩
  | s t e _ => rintro l vs F k ⟨v, e1, ho⟩; exact ⟨fun _ => rowVal e v F, v, e1, ho, rfl⟩

theorem openB_out : ∀ {o : O} {x : El o.u} {k : Nat} {h : Nat → B} {n : Nat}, (n < k ∨ k + o.rows ≤ n) → openB o x k h n = h n := by
  intro o
  induction o with
  | d u => intro x k h n _; rfl
  | p a b iha ihb =>
    intro x k h n hn
    simp only [O.rows] at hn
    simp only [openB]
    rw [ihb (by omega), iha (by omega)]
  | s t e _ =>
    intro x k h n hn
    simp only [O.rows] at hn
    exact upd_ne _ _ (by omega)

theorem openB_mut : ∀ {o : O} {x : El o.u} {k : Nat} {h : Nat → B} {n : Nat}, k ≤ n → n < k + o.rows → (openB o x k h n).mut = true := by
  intro o
  induction o with
  | d u => intro x k h n h1 h2; simp only [O.rows] at h2; omega
  | p a b iha ihb =>
    intro x k h n h1 h2
    simp only [O.rows] at h2
    simp only [openB]
    rcases Nat.lt_or_ge n (k + a.rows) with q | q
    · rw [openB_out (.inl q)]; exact iha h1 q
    · exact ihb q (by omega)
  | s t e _ =>
    intro x k h n h1 h2
    simp only [O.rows] at h2
    have : n = k := by omega
    subst this
    simp only [openB, upd_same]; exact rowOf_mut

/-- What the names of an open element stand for. -/
theorem Opened.rel {ok : Nat → Prop} : ∀ {o : O} {x : El o.u} {vs : List Value} {F : List Nat} {k : Nat} {ψ : Nat → Value}, Opened S w o x vs F k ψ → F.Nodup → (∀ g ∈ F, ok g) → ∀ {h0 : Nat → B} {n : Nat}, k ≤ n → n < k + o.rows →
    RelB S w φ h ok (ψ n) (openB o x k h0 n) ∧ ∀ g, Bk (ψ n) g → g ∈ F := by
  intro o
  induction o with
  | d u => intro x vs F k ψ _ _ _ h0 n h1 h2; simp only [O.rows] at h2; omega
  | p a b iha ihb =>
    rintro x vs F k ψ ⟨v1, v2, F1, F2, e1, rfl, k1, k2⟩ hn hok h0 n h1 h2
    simp only [O.rows] at h2
    simp only [openB]
    have hn' := List.nodup_append.1 hn
    rcases Nat.lt_or_ge n (k + a.rows) with q | q
    · rw [openB_out (.inl q)]
      obtain ⟨r1, r2⟩ := iha k1 hn'.1 (fun g hg => hok g (List.mem_append.2 (.inl hg))) (h0 := h0) h1 q
      exact ⟨r1, fun g hg => List.mem_append.2 (.inl (r2 g hg))⟩
    · obtain ⟨r1, r2⟩ := ihb k2 hn'.2.1 (fun g hg => hok g (List.mem_append.2 (.inr hg))) (h0 := openB a x.1 k h0) q (by omega)
      exact ⟨r1, fun g hg => List.mem_append.2 (.inr (r2 g hg))⟩
  | s t e _ =>
    rintro l vs F k ψ ⟨v, rfl, ho, hv⟩ hn hok h0 n h1 h2
    simp only [O.rows] at h2
    have : n = k := by omega
    subst this
    simp only [openB, upd_same]
    rw [hv]
    exact ⟨rowOf_rel ho hn hok, fun g hg => by unfold Bk at hg; rwa [rowVal_pf ho] at hg⟩

/-- The names of an open element share nothing. -/
theorem Opened.apart : ∀ {o : O} {x : El o.u} {vs : List Value} {F : List Nat} {k : Nat} {ψ : Nat → Value}, Opened S w o x vs F k ψ → F.Nodup → ∀ {n m g : Nat}, n < m → k ≤ n → m < k + o.rows → Bk (ψ n) g → ¬ Bk (ψ m) g := by
  intro o
  induction o with
  | d u => intro x vs F k ψ _ _ n m g h0 h1 h2; simp only [O.rows] at h2; omega
  | p a b iha ihb =>
    rintro x vs F k ψ ⟨v1, v2, F1, F2, e1, rfl, k1, k2⟩ hn n m g h0 h1 h2
    simp only [O.rows] at h2
    have hn' := List.nodup_append.1 hn
    rcases Nat.lt_or_ge m (k + a.rows) with q | q
    · exact iha k1 hn'.1 h0 h1 q
    · rcases Nat.lt_or_ge n (k + a.rows) with p | p
      · intro hb1 hb2
        have q1 := (k1.rel (φ := ψ) (h := fun _ => .free) (ok := fun _ => True) hn'.1 (fun _ _ => trivial) (h0 := fun _ => .free) h1 p).2 g hb1
        have q2 := (k2.rel (φ := ψ) (h := fun _ => .free) (ok := fun _ => True) hn'.2.1 (fun _ _ => trivial) (h0 := fun _ => .free) q (by omega)).2 g hb2
        exact hn'.2.2 g q1 g q2 rfl
      · exact ihb k2 hn'.2.1 h0 p (by omega)
  | s t e _ =>
    intro x vs F k ψ _ _ n m g h0 h1 h2
    simp only [O.rows] at h2
    omega

/-- The cells of an open element. -/
theorem Opened.cells : ∀ {o : O} {x : El o.u} {vs : List Value} {F : List Nat} {k : Nat} {ψ : Nat → Value}, Opened S w o x vs F k ψ → (∀ n, k ≤ n → n < k + o.rows → φ n = ψ n ∧ (h n).live = true) → All2 (RelC S w φ h) (openC o x k) vs := by
  intro o
  induction o with
  | d u => rintro x vs F k ψ ⟨hr, _⟩ _; exact relC_toCells hr
  | p a b iha ihb =>
    rintro x vs F k ψ ⟨v1, v2, F1, F2, rfl, _, k1, k2⟩ hq
    simp only [O.rows] at hq
    exact (iha k1 fun n h1 h2 => hq n h1 (by omega)).append (ihb k2 fun n h1 h2 => hq n (by omega) (by omega))
  | s t e _ =>
    rintro l vs F k ψ ⟨v, rfl, ho, hv⟩ hq
    obtain ⟨q1, q2⟩ := hq k (Nat.le_refl k) (by simp [O.rows])
    obtain ⟨A, i, c, hs⟩ := ho.slice
    exact ⟨⟨q2, by rw [q1, hv, rowVal_pv ho], A, i, c, hs⟩, trivial⟩

theorem Opened.length : ∀ {o : O} {x : El o.u} {vs : List Value} {F : List Nat} {k : Nat} {ψ : Nat → Value}, Opened S w o x vs F k ψ → vs.length = o.u.n := by
  intro o
  induction o with
  | d u => rintro x vs F k ψ ⟨hr, _⟩; exact hr.length
  | p a b iha ihb => rintro x vs F k ψ ⟨v1, v2, F1, F2, rfl, _, k1, k2⟩; simp [iha k1, ihb k2, U.n]
  | s t e _ => rintro l vs F k ψ ⟨v, rfl, ho, hv⟩; rfl

/-- Cells closed to an element. -/
theorem closeC_rel {ok : Nat → Prop} (hb : ∀ n, RelB S w φ h ok (φ n) (h n)) (hap : ∀ n m g, n ≠ m → (h n).mut = true → (h m).mut = true → Bk (φ n) g → ¬ Bk (φ m) g) : ∀ {o : O} {cs r : List C} {vs : List Value} {x : El o.u} {ns : List Nat},
    All2 (RelC S w φ h) cs vs → closeC h o cs = some (x, r, ns) → ∃ v1 v2 F, vs = v1 ++ v2 ∧ All2 (RelC S w φ h) r v2 ∧ RepO S w o x v1 F ∧ (∀ g, g ∈ F ↔ ∃ n ∈ ns, Bk (φ n) g) ∧ (ns.Nodup → F.Nodup) ∧ ∀ n ∈ ns, (h n).mut = true := by
  intro o
  induction o with
  | d u =>
    intro cs r vs x ns ha hc
    simp only [closeC] at hc
    split at hc
    · rename_i y hd hr
      injection hc with hc; injection hc with h1 hc; injection hc with h2 h3
      subst h1; subst h2; subst h3
      refine ⟨vs.take u.n, vs.drop u.n, [], (List.take_append_drop _ _).symm, ha.drop _, ⟨rep_datum hb (fun _ h => h) (ha.take _) hd fun n hn hrow => ?_, rfl⟩, fun g => ⟨fun h => (by cases h), fun ⟨_, h, _⟩ => (by cases h)⟩, fun _ => List.nodup_nil, fun n hn => by cases hn⟩
      have := List.all_eq_true.1 hr n hn
      rw [hrow] at this; cases this
    · cases hc
  | p a b iha ihb =>
    intro cs r vs x ns ha hc
    simp only [closeC] at hc
    split at hc
    · rename_i y r1 ns1 e1
      split at hc
      · rename_i z r2 ns2 e2
        injection hc with hc; injection hc with h1 hc; injection hc with h2 h3
        subst h1; subst h2; subst h3
        obtain ⟨v1, v2, F1, rfl, ha2, hr1, hF1, hn1, hm1⟩ := iha ha e1
        obtain ⟨v3, v4, F2, rfl, ha3, hr2, hF2, hn2, hm2⟩ := ihb ha2 e2
        refine ⟨v1 ++ v3, v4, F1 ++ F2, by simp, ha3, ⟨v1, v3, F1, F2, rfl, rfl, hr1, hr2⟩, fun g => ?_, fun hn => ?_, fun n hn => (List.mem_append.1 hn).elim (hm1 n) (hm2 n)⟩
        · rw [List.mem_append, hF1, hF2]
          constructor
          · rintro (⟨n, h1, h2⟩ | ⟨n, h1, h2⟩)
            · exact ⟨n, List.mem_append.2 (.inl h1), h2⟩
            · exact ⟨n, List.mem_append.2 (.inr h1), h2⟩
          · rintro ⟨n, h1, h2⟩
            exact (List.mem_append.1 h1).elim (fun h => .inl ⟨n, h, h2⟩) (fun h => .inr ⟨n, h, h2⟩)
        · have hn := List.nodup_append.1 hn
          refine List.nodup_append.2 ⟨hn1 hn.1, hn2 hn.2.1, fun g q1 g' q2 e => ?_⟩
          subst e
          obtain ⟨n, p1, p2⟩ := (hF1 g).1 q1
          obtain ⟨m, p3, p4⟩ := (hF2 g).1 q2
          exact hap n m g (hn.2.2 n p1 m p3) (hm1 n p1) (hm2 m p3) p2 p4
      · cases hc
    · cases hc
  | s t e _ =>
    intro cs r vs x ns ha hc
    simp only [closeC] at hc
    split at hc
    · rename_i r'
      split at hc
      · rename_i hp
        injection hc with hc; injection hc with h1 hc; injection hc with h2 h3
        subst h1; subst h2; subst h3
        cases vs with
        | nil => exact ha.elim
        | cons v vs =>
          have hv : v = .slice none 0 0 := ha.1
          subst hv
          rw [Nat.blt_eq] at hp
          exact ⟨[_], vs, [], rfl, ha.2, ⟨_, rfl, [], [], hp, World.ownsRow_nil _ _ _ _, ⟨rfl, rfl⟩, rfl⟩, fun g => ⟨fun h => (by cases h), fun ⟨_, h, _⟩ => (by cases h)⟩, fun _ => List.nodup_nil, fun n hn => by cases hn⟩
      · cases hc
    · rename_i n r'
      split at hc
      · rename_i l hl
        injection hc with hc; injection hc with h1 hc; injection hc with h2 h3
        subst h1; subst h2; subst h3
        cases vs with
        | nil => exact ha.elim
        | cons v vs =>
          obtain ⟨_, hv, _⟩ := ha.1
          obtain ⟨k1, k2, k3⟩ := asRow_rel hl (hb n)
          refine ⟨[v], vs, pf (φ n), rfl, ha.2, ⟨v, rfl, by rw [hv]; exact k2⟩, fun g => ⟨fun h => ⟨n, List.mem_singleton.2 rfl, h⟩, fun ⟨m, h1, h2⟩ => by rw [List.mem_singleton.1 h1] at h2; exact h2⟩, fun _ => k3, fun m hm => by rw [List.mem_singleton.1 hm]; exact k1⟩
      · cases hc
    · cases hc

theorem closeC_sub : ∀ {o : O} {cs r : List C} {x : El o.u} {ns : List Nat}, closeC h o cs = some (x, r, ns) → ∀ c ∈ r, c ∈ cs := by
  intro o
  induction o with
  | d u =>
    intro cs r x ns hc
    simp only [closeC] at hc
    split at hc
    · injection hc with hc; injection hc with h1 hc; injection hc with h2 h3
      subst h2; exact fun c hc => List.mem_of_mem_drop hc
    · cases hc
  | p a b iha ihb =>
    intro cs r x ns hc
    simp only [closeC] at hc
    split at hc
    · rename_i y r1 ns1 e1
      split at hc
      · rename_i z r2 ns2 e2
        injection hc with hc; injection hc with h1 hc; injection hc with h2 h3
        subst h2
        exact fun c hc => iha e1 c (ihb e2 c hc)
      · cases hc
    · cases hc
  | s t e _ =>
    intro cs r x ns hc
    simp only [closeC] at hc
    split at hc
    · split at hc
      · injection hc with hc; injection hc with h1 hc; injection hc with h2 h3
        subst h2; exact fun c hc => List.mem_cons.2 (.inr hc)
      · cases hc
    · split at hc
      · injection hc with hc; injection hc with h1 hc; injection hc with h2 h3
        subst h2; exact fun c hc => List.mem_cons.2 (.inr hc)
      · cases hc
    · cases hc

theorem closeC_row : ∀ {o : O} {cs r : List C} {x : El o.u} {ns : List Nat}, closeC h o cs = some (x, r, ns) → ∀ n ∈ ns, .row n ∈ cs ∧ (h n).isRow = true := by
  intro o
  induction o with
  | d u =>
    intro cs r x ns hc
    simp only [closeC] at hc
    split at hc
    · injection hc with hc; injection hc with h1 hc; injection hc with h2 h3
      subst h3; intro n hn; cases hn
    · cases hc
  | p a b iha ihb =>
    intro cs r x ns hc
    simp only [closeC] at hc
    split at hc
    · rename_i y r1 ns1 e1
      split at hc
      · rename_i z r2 ns2 e2
        injection hc with hc; injection hc with h1 hc; injection hc with h2 h3
        subst h3
        intro n hn
        rcases List.mem_append.1 hn with q | q
        · exact iha e1 n q
        · obtain ⟨k1, k2⟩ := ihb e2 n q
          exact ⟨closeC_sub e1 _ k1, k2⟩
      · cases hc
    · cases hc
  | s t e _ =>
    intro cs r x ns hc
    simp only [closeC] at hc
    split at hc
    · split at hc
      · injection hc with hc; injection hc with h1 hc; injection hc with h2 h3
        subst h3; intro n hn; cases hn
      · cases hc
    · rename_i m r'
      split at hc
      · rename_i l hl
        injection hc with hc; injection hc with h1 hc; injection hc with h2 h3
        subst h3
        intro n hn
        rw [List.mem_singleton.1 hn]
        refine ⟨List.mem_cons.2 (.inl rfl), ?_⟩
        cases e2 : h m <;> rw [e2] at hl <;> first | rfl | cases hl
      · cases hc
    · cases hc

theorem closeC_length : ∀ {o : O} {cs r : List C} {x : El o.u} {ns : List Nat}, closeC h o cs = some (x, r, ns) → cs.length = o.u.n + r.length := by
  intro o
  induction o with
  | d u =>
    intro cs r x ns hc
    simp only [closeC] at hc
    split at hc
    · rename_i y hd _
      injection hc with hc; injection hc with h1 hc; injection hc with h2 h3
      subst h2
      have := datum_length hd
      rw [List.length_take] at this
      rw [List.length_drop]
      show _ = u.n + _
      omega
    · cases hc
  | p a b iha ihb =>
    intro cs r x ns hc
    simp only [closeC] at hc
    split at hc
    · rename_i y r1 ns1 e1
      split at hc
      · rename_i z r2 ns2 e2
        injection hc with hc; injection hc with h1 hc; injection hc with h2 h3
        subst h2
        rw [iha e1, ihb e2]
        show _ = a.u.n + b.u.n + _
        omega
      · cases hc
    · cases hc
  | s t e _ =>
    intro cs r x ns hc
    simp only [closeC] at hc
    split at hc
    · split at hc
      · injection hc with hc; injection hc with h1 hc; injection hc with h2 h3
        subst h2; simp [U.n]; omega
      · cases hc
    · split at hc
      · injection hc with hc; injection hc with h1 hc; injection hc with h2 h3
        subst h2; simp [U.n]; omega
      · cases hc
    · cases hc

theorem distinct_nodup : ∀ {ns : List Nat}, distinct ns = true → ns.Nodup
  | [], _ => List.nodup_nil
  | n :: r, h => by
    simp only [distinct, Bool.and_eq_true] at h
    refine List.nodup_cons.2 ⟨fun q => ?_, distinct_nodup h.2⟩
    have h1 := h.1
    rw [Bool.not_eq_true', List.any_eq_false] at h1
    exact h1 n q (Nat.beq_refl n)

/-- Names regrouped: the world stays, and who owns what is told anew for some names. -/
theorem RelH.regroup {cx : Cx} (m : RelH cx φ S h w) {φ' : Nat → Value} {h' : Nat → B} (N : Nat → Prop)
    (same : ∀ n, ¬ N n → h' n = h n ∧ φ' n = φ n)
    (live : ∀ n, (h n).live = true → (h' n).live = true ∧ pv (φ' n) = pv (φ n))
    (rel : ∀ n, N n → RelB S w φ' h' cx.ok (φ' n) (h' n))
    (src : ∀ n g, N n → (h' n).mut = true → Bk (φ' n) g → ∃ k, N k ∧ (h k).mut = true ∧ Bk (φ k) g)
    (apart : ∀ n k g, n < k → N n → N k → (h' n).mut = true → (h' k).mut = true → Bk (φ' n) g → ¬ Bk (φ' k) g)
    (glob : ∀ n, N n → isGlob n = false)
    (kept : ∀ n, N n → isKept n = true → (h n).live = true) : RelH cx φ' S h' w := by
  have apart' : ∀ n k g, n ≠ k → N n → N k → (h' n).mut = true → (h' k).mut = true → Bk (φ' n) g → ¬ Bk (φ' k) g := by
    intro n k g hnk h1 h2 h3 h4 h5 h6
    rcases Nat.lt_or_ge n k with q | q
    · exact apart n k g q h1 h2 h3 h4 h5 h6
    · exact apart k n g (by omega) h2 h1 h4 h3 h6 h5
  constructor
  · intro n
    by_cases e : N n
    · exact rel n e
    · obtain ⟨e1, e2⟩ := same n e
      rw [e1, e2]
      exact RelB.mono (fun _ h => h) (fun _ _ => rfl) live (fun _ _ _ => rfl) (m.b n)
  · intro n k g hnk h1 h2 hb1 hb2
    by_cases en : N n
    · by_cases ek : N k
      · exact apart' n k g hnk en ek h1 h2 hb1 hb2
      · obtain ⟨e1, e2⟩ := same k ek
        rw [e1] at h2; rw [e2] at hb2
        obtain ⟨j, q1, q2, q3⟩ := src n g en h1 hb1
        exact m.apart j k g (by rintro rfl; exact ek q1) q2 h2 q3 hb2
    · obtain ⟨e1, e2⟩ := same n en
      rw [e1] at h1; rw [e2] at hb1
      by_cases ek : N k
      · obtain ⟨j, q1, q2, q3⟩ := src k g ek h2 hb2
        exact m.apart j n g (by rintro rfl; exact en q1) q2 h1 q3 hb1
      · obtain ⟨e1, e2⟩ := same k ek
        rw [e1] at h2; rw [e2] at hb2
        exact m.apart n k g hnk h1 h2 hb1 hb2
  · intro n g h1 hb1
    by_cases en : N n
    · obtain ⟨j, q1, q2, q3⟩ := src n g en h1 hb1
      exact m.sep j g q2 q3
    · obtain ⟨e1, e2⟩ := same n en
      rw [e1] at h1; rw [e2] at hb1
      exact m.sep n g h1 hb1
  · exact m.inS
  · exact m.lt
  · intro g hg hl
    have hn : ¬ N (gname g) := fun q => by rw [glob _ q] at hg; cases hg
    obtain ⟨e1, e2⟩ := same _ hn
    rw [e1] at hl; rw [e2]
    exact m.glob g hg hl
  · intro n hg
    have hn : ¬ N n := fun q => by rw [glob _ q] at hg; cases hg
    rw [(same n hn).1]; exact m.gl n hg
  · intro n hk hl
    by_cases en : N n
    · have := kept n en hk
      rw [(live n this).2]; exact m.kp n hk this
    · obtain ⟨e1, e2⟩ := same n en
      rw [e1] at hl; rw [e2]; exact m.kp n hk hl
  · exact m.keep
end
end Go.Proofs.YtkimeoknckohfaaDoor.R1
