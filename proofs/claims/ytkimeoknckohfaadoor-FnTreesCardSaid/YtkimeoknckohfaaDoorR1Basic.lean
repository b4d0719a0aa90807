/- The steps' soundness, first part: operands, cells of data, new blocks, stores. -/
import Derived.Test.YtkimeoknckohfaaDoorR1Rel
namespace Go.Proofs.YtkimeoknckohfaaDoor.R1

theorem upd_same {α : Type} (f : Nat → α) (i : Nat) (x : α) : upd f i x i = x := by simp [upd]
theorem upd_ne {α : Type} (f : Nat → α) {i j : Nat} (x : α) (h : j ≠ i) : upd f i x j = f j := by
  unfold upd
  cases e : Nat.beq j i with
  | true => exact absurd (Nat.eq_of_beq_eq_true e) h
  | false => rfl

/-! ### Operands -/
section
variable {S : Nat → Prop} {w : World} {φ : Nat → Value} {h : Nat → B}

theorem relC_ofCell : ∀ {v : Value} {c : C}, ofCell v = some c → RelC S w φ h c v := by
  intro v c hv
  cases v with
  | int k n => injection hv with hv; subst hv; rfl
  | bool b => injection hv with hv; subst hv; rfl
  | string s => injection hv with hv; subst hv; rfl
  | nilFunc => injection hv with hv; subst hv; rfl
  | slice a n k =>
    simp only [ofCell] at hv
    split at hv
    · injection hv with hv; subst hv; rfl
    · cases hv
  | pointer a => cases a <;> first | (injection hv with hv; subst hv; rfl) | cases hv
  | map a => cases a <;> first | (injection hv with hv; subst hv; rfl) | cases hv
  | func g x y =>
    simp only [ofCell] at hv
    split at hv
    · rename_i f hx hy
      injection hv with hv; subst hv
      have hx : x = #[] := by cases x; simp_all
      have hy : y = #[] := by cases y; simp_all
      subst hx; subst hy; rfl
    · cases hv
  | _ => cases hv

theorem all2_ofCells : ∀ {vs : List Value} {cs : List C}, ofCellList vs = some cs → All2 (RelC S w φ h) cs vs
  | [], cs, hv => by simp [ofCellList] at hv; subst hv; trivial
  | v :: r, cs, hv => by
    simp only [ofCellList] at hv
    cases e : ofCell v with
    | none => rw [e] at hv; cases hv
    | some c =>
      rw [e] at hv
      cases e2 : ofCellList r with
      | none => rw [e2] at hv; cases hv
      | some cs' => rw [e2] at hv; injection hv with hv; subst hv; exact ⟨relC_ofCell e, all2_ofCells e2⟩

theorem relV_ofConst (v : Value) : RelV S w φ h (ofConst v) v := by
  unfold ofConst
  split
  · split
    · rename_i l cs hl; exact ⟨_, rfl, all2_ofCells hl⟩
    · trivial
  · split
    · rename_i c hc; exact relC_ofCell hc
    · trivial

theorem relV_opnd {cx : Cx} {nt : Nat} {st : St} {a : Act} (m : RelP cx nt φ S st a w) (x : Operand) : RelV S w φ st.h (opnd st x) (a.eval x) := by
  cases x with
  | tmp t => exact m.t t
  | const v => exact relV_ofConst v
  | func f => exact rfl
  | global g =>
    simp only [opnd]
    cases e : isGlob (gname g) && (st.h (gname g)).live with
    | false => trivial
    | true =>
      rw [Bool.and_eq_true] at e
      exact ⟨e.2, g, m.m.glob g e.1 e.2, by simp [Act.eval]⟩

theorem relV_one {x : V} {v : Value} {c : C} (hr : RelV S w φ h x v) (hc : x.one = some c) : RelC S w φ h c v := by
  cases x with
  | v x => cases x with
    | c y => simp [V.one] at hc; subst hc; exact hr
    | agg xs => simp [V.one] at hc
  | _ => simp [V.one] at hc

theorem value_cells_one {v : Value} (h : v.oneCell' = true) : v.cells = #[v] := by cases v <;> first | rfl | simp [Value.oneCell'] at h

theorem relV_cells {x : V} {v : Value} {cs : List C} (hr : RelV S w φ h x v) (hc : x.cells = some cs) : All2 (RelC S w φ h) cs v.cells.toList := by
  cases x with
  | v x => cases x with
    | c y =>
      simp [V.cells, W1.cells] at hc; subst hc
      have hr : RelC S w φ h y v := hr
      rw [value_cells_one hr.one]
      exact ⟨hr, trivial⟩
    | agg xs =>
      simp [V.cells, W1.cells] at hc; subst hc
      obtain ⟨cs, rfl, ha⟩ := hr
      exact ha
  | _ => simp [V.cells] at hc

/-! ### Data of cells -/
theorem relC_toCells : ∀ {u : U} {x : El u} {vs : List Value}, Rep S w u x vs → All2 (RelC S w φ h) (toCells u x) vs := by
  intro u
  induction u with
  | int k => intro x vs hr; cases hr; exact ⟨rfl, trivial⟩
  | bool => intro x vs hr; cases hr; exact ⟨rfl, trivial⟩
  | str => intro x vs hr; cases hr; exact ⟨rfl, trivial⟩
  | unit => intro x vs hr; cases hr; trivial
  | pair a b iha ihb => rintro x vs ⟨v1, v2, rfl, h1, h2⟩; exact (iha h1).append (ihb h2)
  | sl e ih => intro l vs hr; obtain ⟨A, cap, cs, rfl, hx⟩ := hr; exact ⟨⟨A, cap, cs, rfl, hx⟩, trivial⟩

theorem toCells_length : ∀ {u : U} {x : El u}, (toCells u x).length = u.n := by
  intro u
  induction u with
  | pair a b iha ihb => intro x; simp [toCells, iha, ihb, U.n]
  | _ => intro x; rfl

theorem rep_row {ok : Nat → Prop} {v : Value} {e : Nat} {u : U} {l : List (El u)} {S' : Nat → Prop} (hS : ∀ g, S g → S' g) (hb : RelB S w φ h ok v (.row e u l)) (hv : ∀ g, Bk v g → S' g) : Rep S' w (.sl u) l [pv v] := by
  obtain ⟨hn, flat, ho, hl, _⟩ := hb
  have hl' : RepL (Rep S' w u) l flat := hl.mono fun _ _ => Rep.mono hS (fun _ _ => rfl)
  rcases ho.2 with ⟨rfl, h0⟩ | ⟨g, cap, cur, rfl, _, hg, hc, _, _, ht⟩
  · have : l = [] := List.eq_nil_of_length_eq_zero h0
    subst this
    exact ⟨none, 0, [], rfl, Nat.le_refl _, rfl, rfl, rfl⟩
  · exact ⟨some ⟨g, 0, none⟩, cap, flat, rfl, hc, hl', ho.cells rfl, fun _ => hv g (bk_slice.2 rfl)⟩

theorem rep_ro {ok : Nat → Prop} {v : Value} {e : Nat} {u : U} {l : List (El u)} (hb : RelB S w φ h ok v (.ro e u l)) : Rep S w (.sl u) l [pv v] := by
  obtain ⟨hn, flat, cap, hl, hc, hv⟩ := hb
  rcases hv with ⟨hv, rfl⟩ | ⟨g, hv, hm, hs⟩
  · rw [hv]; exact ⟨none, 0, [], rfl, Nat.le_refl _, rfl, rfl, rfl⟩
  · rw [hv]; exact ⟨some ⟨g, 0, none⟩, cap, flat, rfl, hc, hl, hm, hs⟩

theorem rep_dataSl {ok : Nat → Prop} (hb : ∀ n, RelB S w φ h ok (φ n) (h n)) {S' : Nat → Prop} (hS : ∀ g, S g → S' g) {u : U} {c : C} {v : Value} {l : List (El u)} (hr : RelC S w φ h c v) (hd : dataSl h u c = some l)
    (hrow : ∀ n, c = .row n → (h n).isRow = true → ∀ g, Bk (φ n) g → S' g) : Rep S' w (.sl u) l [v] := by
  unfold dataSl at hd
  split at hd
  · rename_i u' l'
    split at hd
    · rename_i e; subst e; injection hd with hd; subst hd; exact Rep.mono hS (fun _ _ => rfl) hr
    · cases hd
  · split at hd
    · rename_i e; subst e; injection hd with hd; subst hd; exact Rep.mono hS (fun _ _ => rfl) hr.1
    · cases hd
  · injection hd with hd; subst hd
    have : v = .slice none 0 0 := hr
    subst this
    exact ⟨none, 0, [], rfl, Nat.le_refl _, rfl, rfl, rfl⟩
  · rename_i n
    obtain ⟨_, hv, _⟩ := hr
    subst hv
    have hn := hb n
    split at hd
    · rename_i e u' l' hh
      split at hd
      · rename_i q; subst q; injection hd with hd; subst hd
        rw [hh] at hn
        exact rep_row hS hn (hrow n rfl (by rw [hh]; rfl))
      · cases hd
    · rename_i e u' l' hh
      split at hd
      · rename_i q; subst q; injection hd with hd; subst hd
        rw [hh] at hn
        exact Rep.mono hS (fun _ _ => rfl) (rep_ro hn)
      · cases hd
    · rename_i e o l' hh
      split at hd
      · rename_i q; subst q; injection hd with hd; subst hd
        rw [hh] at hn
        obtain ⟨s, F, hv, ho, _⟩ := hn
        have hF := hrow n rfl (by rw [hh]; rfl)
        rw [hv.1]
        exact ho.rep (fun x vs F hq h => h.rep hS hq) fun g hg => hF g (by unfold Bk; rw [hv.2]; exact hg)
      · cases hd
    · cases hd
  · cases hd

theorem rep_ofCells {ok : Nat → Prop} (hb : ∀ n, RelB S w φ h ok (φ n) (h n)) {S' : Nat → Prop} (hS : ∀ g, S g → S' g) : ∀ {u : U} {cs : List C} {vs : List Value} {x : El u} {rest : List C},
    All2 (RelC S w φ h) cs vs → ofCells h u cs = some (x, rest) → (∀ n ∈ rowsIn cs, (h n).isRow = true → ∀ g, Bk (φ n) g → S' g) →
    ∃ v1 v2, vs = v1 ++ v2 ∧ Rep S' w u x v1 ∧ All2 (RelC S w φ h) rest v2 ∧ (∀ n ∈ rowsIn rest, n ∈ rowsIn cs) := by
  intro u
  induction u with
  | int k =>
    intro cs vs x rest ha ho hrow
    simp only [ofCells] at ho
    split at ho
    · rename_i k' n r
      split at ho
      · rename_i q; subst q; injection ho with ho; injection ho with h1 h2; subst h1; subst h2
        cases vs with
        | nil => exact ha.elim
        | cons v vs => exact ⟨[v], vs, rfl, by have := ha.1; exact congrArg (· :: []) this, ha.2, fun n hn => hn⟩
      · cases ho
    · cases ho
  | bool =>
    intro cs vs x rest ha ho hrow
    simp only [ofCells] at ho
    split at ho
    · injection ho with ho; injection ho with h1 h2; subst h1; subst h2
      cases vs with
      | nil => exact ha.elim
      | cons v vs => exact ⟨[v], vs, rfl, by have := ha.1; exact congrArg (· :: []) this, ha.2, fun n hn => hn⟩
    · cases ho
  | str =>
    intro cs vs x rest ha ho hrow
    simp only [ofCells] at ho
    split at ho
    · injection ho with ho; injection ho with h1 h2; subst h1; subst h2
      cases vs with
      | nil => exact ha.elim
      | cons v vs => exact ⟨[v], vs, rfl, by have := ha.1; exact congrArg (· :: []) this, ha.2, fun n hn => hn⟩
    · cases ho
  | unit =>
    intro cs vs x rest ha ho hrow
    simp only [ofCells] at ho
    injection ho with ho; injection ho with h1 h2; subst h2
    exact ⟨[], vs, rfl, rfl, ha, fun n hn => hn⟩
  | pair a b iha ihb =>
    intro cs vs x rest ha ho hrow
    simp only [ofCells] at ho
    split at ho
    · rename_i x1 r1 e1
      split at ho
      · rename_i x2 r2 e2
        injection ho with ho; injection ho with h1 h2; subst h1; subst h2
        obtain ⟨v1, v2, rfl, hr1, ha2, hs1⟩ := iha ha e1 hrow
        obtain ⟨v3, v4, rfl, hr2, ha4, hs2⟩ := ihb ha2 e2 fun n hn => hrow n (hs1 n hn)
        exact ⟨v1 ++ v3, v4, by simp, ⟨v1, v3, rfl, hr1, hr2⟩, ha4, fun n hn => hs1 n (hs2 n hn)⟩
      · cases ho
    · cases ho
  | sl e ih =>
    intro cs vs x rest ha ho hrow
    simp only [ofCells] at ho
    split at ho
    · rename_i c r
      split at ho
      · rename_i l hl
        injection ho with ho; injection ho with h1 h2; subst h1; subst h2
        cases vs with
        | nil => exact ha.elim
        | cons v vs =>
          refine ⟨[v], vs, rfl, rep_dataSl hb hS ha.1 hl fun n hc => ?_, ha.2, fun n hn => ?_⟩
          · subst hc; exact hrow n (by simp [rowsIn])
          · cases c <;> simp [rowsIn] <;> first | exact hn | exact .inr hn
      · cases ho
    · cases ho

theorem rep_datum {ok : Nat → Prop} (hb : ∀ n, RelB S w φ h ok (φ n) (h n)) {S' : Nat → Prop} (hS : ∀ g, S g → S' g) {u : U} {cs : List C} {vs : List Value} {x : El u}
    (ha : All2 (RelC S w φ h) cs vs) (ho : datum h u cs = some x) (hrow : ∀ n ∈ rowsIn cs, (h n).isRow = true → ∀ g, Bk (φ n) g → S' g) : Rep S' w u x vs := by
  unfold datum at ho
  split at ho
  · rename_i y hy
    injection ho with ho; subst ho
    obtain ⟨v1, v2, rfl, hr, h2, _⟩ := rep_ofCells hb hS ha hy hrow
    cases v2 with
    | nil => simpa using hr
    | cons v v2 => exact h2.elim
  · cases ho

theorem datum_length {u : U} {cs : List C} {x : El u} (ho : datum h u cs = some x) : cs.length = u.n := by
  unfold datum at ho
  split at ho
  · rename_i y hy
    have : ∀ {u : U} {cs : List C} {x : El u} {rest : List C}, ofCells h u cs = some (x, rest) → cs.length = u.n + rest.length := by
      intro u
      induction u with
      | int k =>
        intro cs x rest ho
        simp only [ofCells] at ho
        split at ho
        · split at ho
          · injection ho with ho; injection ho with h1 h2; subst h2; simp [U.n]; omega
          · cases ho
        · cases ho
      | bool =>
        intro cs x rest ho
        simp only [ofCells] at ho
        split at ho
        · injection ho with ho; injection ho with h1 h2; subst h2; simp [U.n]; omega
        · cases ho
      | str =>
        intro cs x rest ho
        simp only [ofCells] at ho
        split at ho
        · injection ho with ho; injection ho with h1 h2; subst h2; simp [U.n]; omega
        · cases ho
      | unit =>
        intro cs x rest ho
        simp only [ofCells] at ho
        injection ho with ho; injection ho with h1 h2; subst h2; simp [U.n]
      | pair a b iha ihb =>
        intro cs x rest ho
        simp only [ofCells] at ho
        split at ho
        · rename_i x1 r1 e1
          split at ho
          · rename_i x2 r2 e2
            injection ho with ho; injection ho with h1 h2; subst h2
            rw [iha e1, ihb e2]; simp [U.n]; omega
          · cases ho
        · cases ho
      | sl e ih =>
        intro cs x rest ho
        simp only [ofCells] at ho
        split at ho
        · split at ho
          · injection ho with ho; injection ho with h1 h2; subst h2; simp [U.n]; omega
          · cases ho
        · cases ho
    simpa using this hy
  · cases ho
end
end Go.Proofs.YtkimeoknckohfaaDoor.R1
