/- Regions whose order is drawn: any order does what the text's order does. -/
import Derived.Test.YtcijmfodhdigpaaR1Befores
namespace Go.Proofs.Ytcijmfodhdigpaa.R1
variable {P : Program} {ρ : Type}

/-- A value told anew over the names of another state that has told it. -/
theorem RelC.back {S S0 : Nat → Prop} {w w0 : World} {φ φ' φ0 : Nat → Value} {h h0 : Nat → B} (hφ : ∀ n, (h0 n).live = true → φ' n = φ n) : ∀ {c : C} {v v0 : Value}, RelC S w φ h c v → RelC S0 w0 φ0 h0 c v0 → RelC S w φ' h0 c v := by
  intro c
  induction c with
  | row n => rintro v v0 ⟨_, hv, hx⟩ ⟨hl, _⟩; exact ⟨hl, by rw [hφ n hl]; exact hv, hx⟩
  | ptr n i sz off => rintro v v0 ⟨_, g, hg, hv⟩ ⟨hl, _⟩; exact ⟨hl, g, by rw [hφ n hl]; exact hg, hv⟩
  | cap g c ihg ihc =>
    rintro v v0 ⟨f, cs, x, h1, h2, hv⟩ ⟨f', cs', x', h1', h2', _⟩
    exact ⟨f, cs, x, ihg h1 h1', ihc h2 h2', hv⟩
  | tail n i sz => rintro v v0 ⟨_, A, l, c, h1, h2, h3⟩ ⟨hl, _⟩; exact ⟨hl, A, l, c, by rw [hφ n hl]; exact h1, h2, h3⟩
  | slx u l => exact fun h _ => h
  | sl u l => exact fun h _ => h
  | dptr u x off => exact fun h _ => h
  | _ => exact fun h _ => h

theorem All2.back {S S0 : Nat → Prop} {w w0 : World} {φ φ' φ0 : Nat → Value} {h h0 : Nat → B} (hφ : ∀ n, (h0 n).live = true → φ' n = φ n) : ∀ {cs : List C} {vs vs0 : List Value}, All2 (RelC S w φ h) cs vs → All2 (RelC S0 w0 φ0 h0) cs vs0 → All2 (RelC S w φ' h0) cs vs
  | [], [], _, _, _ => trivial
  | _ :: _, _ :: _, _ :: _, a, b => ⟨RelC.back hφ a.1 b.1, All2.back hφ a.2 b.2⟩
  | [], _ :: _, _, a, _ => a.elim
  | _ :: _, [], _, a, _ => a.elim
  | _ :: _, _ :: _, [], _, b => b.elim

/-- A block told anew. -/
theorem RelB.back {S S0 : Nat → Prop} {w w0 : World} {φ φ' φ0 : Nat → Value} {h h0 : Nat → B} {ok ok' ok0 : Nat → Prop} (hφ : ∀ n, (h0 n).live = true → φ' n = φ n) {b : B} {v v0 : Value} (hok : b.mut = true → ∀ g, blk v = some g → ok' g)
    (hr : RelB S w φ h ok v b) (hr0 : RelB S0 w0 φ0 h0 ok0 v0 b) : RelB S w φ' h0 ok' v b := by
  cases b with
  | free => trivial
  | gone => trivial
  | row e u l => obtain ⟨a, flat, b, c, _⟩ := hr; exact ⟨a, flat, b, c, hok rfl⟩
  | ro e u l => exact hr
  | box t cs =>
    obtain ⟨g, vals, a, b, c, _⟩ := hr
    obtain ⟨g0, vals0, _, _, c0, _⟩ := hr0
    exact ⟨g, vals, a, b, All2.back hφ c c0, hok rfl g (by rw [a]; rfl)⟩

theorem RelB.turn {S S' : Nat → Prop} {w w' : World} {φ φ' : Nat → Value} {h h' : Nat → B} {ok ok' : Nat → Prop} (hS : ∀ g, S g → S' g) (hk : ∀ g, S g → w'.heap[g]? = w.heap[g]?) (hφ : ∀ n, (h n).live = true → (h' n).live = true ∧ φ' n = φ n) {b : B} {v : Value}
    (hb : b.mut = true → ∀ g, blk v = some g → w'.heap[g]? = w.heap[g]? ∧ ok' g) (hr : RelB S w φ h ok v b) : RelB S' w' φ' h' ok' v b := by
  have := RelB.mono (ok := ok) hS hk hφ (fun hm g hg => (hb hm g hg).1) hr
  cases b with
  | free => trivial
  | gone => trivial
  | row e u l => obtain ⟨a, flat, b, c, _⟩ := this; exact ⟨a, flat, b, c, fun g hg => (hb rfl g hg).2⟩
  | ro e u l => exact this
  | box t cs => obtain ⟨g, vals, a, b, c, _⟩ := this; exact ⟨g, vals, a, b, c, (hb rfl g (by rw [a]; rfl)).2⟩

/-! ### A segment: operations that leave things as they are -/
def ownsAt (ops : List Oper) (j n : Nat) : Prop := ∃ o, ops[j]? = some o ∧ owns o n = true

section
variable (ops : List Oper) (s : St) (v : Nat → V) (hv : Nat → Nat → B)
open Classical in
noncomputable def tX (X : Nat → Prop) (n : Nat) : V := if h : ∃ j, X j ∧ dstAt ops j = some n then v h.choose else s.t n
open Classical in
noncomputable def hX (X : Nat → Prop) (n : Nat) : B := if h : ∃ j, X j ∧ ownsAt ops j n then hv h.choose n else s.h n
end

def befK (bs : List (List Nat)) (k i : Nat) : Nat → Prop := fun j => k ≤ j ∧ j ∈ befOf bs i
def visK (bs : List (List Nat)) (k i : Nat) : Nat → Prop := fun j => k ≤ j ∧ (j = i ∨ j ∈ befOf bs i)

structure Reg (ops : List Oper) (bs : List (List Nat)) : Prop where
  good : Good ops bs
  back : Backw ops
  dist : distinctO (ops.map (·.dst)) = true
  small : ∀ (o : Oper), o ∈ ops → ∀ d, o.dst = some d → d < 10000

section
variable {ops : List Oper} {bs : List (List Nat)} {s : St} {v : Nat → V} {hv : Nat → Nat → B}

theorem tX_of (R : Reg ops bs) {X : Nat → Prop} {j n : Nat} (hj : X j) (hd : dstAt ops j = some n) : tX ops s v X n = v j := by
  have h : ∃ j, X j ∧ dstAt ops j = some n := ⟨j, hj, hd⟩
  unfold tX
  rw [dif_pos h, dst_inj R.dist h.choose_spec.2 hd]

theorem tX_not {X : Nat → Prop} {n : Nat} (h : ¬ ∃ j, X j ∧ dstAt ops j = some n) : tX ops s v X n = s.t n := by
  unfold tX; rw [dif_neg h]

/-- Operations of a segment have a target. -/
def Dsts (ops : List Oper) (X : Nat → Prop) : Prop := ∀ j o, X j → ops[j]? = some o → ∃ d, o.dst = some d

theorem ownsAt_inj (R : Reg ops bs) {X : Nat → Prop} (hD : Dsts ops X) {i j n : Nat} (hi : X i) (hj : X j) (h : ownsAt ops i n) (h' : ownsAt ops j n) : i = j := by
  obtain ⟨o, ho, a⟩ := h
  obtain ⟨p, hp, b⟩ := h'
  obtain ⟨d, hd⟩ := hD i o hi ho
  obtain ⟨e, he⟩ := hD j p hj hp
  exact owns_inj R.dist ho hp hd he (R.small o (List.mem_of_getElem? ho) d hd) (R.small p (List.mem_of_getElem? hp) e he) a b

theorem hX_of (R : Reg ops bs) {X : Nat → Prop} (hD : Dsts ops X) {j n : Nat} (hj : X j) (hd : ownsAt ops j n) : hX ops s hv X n = hv j n := by
  have h : ∃ j, X j ∧ ownsAt ops j n := ⟨j, hj, hd⟩
  unfold hX
  rw [dif_pos h, ownsAt_inj R hD h.choose_spec.1 hj h.choose_spec.2 hd]

theorem hX_not {X : Nat → Prop} {n : Nat} (h : ¬ ∃ j, X j ∧ ownsAt ops j n) : hX ops s hv X n = s.h n := by
  unfold hX; rw [dif_neg h]

theorem blindT_iff {i : Nat} : ∀ {l : List Oper} {j0 n : Nat}, blindT bs i l j0 n = true ↔ ∃ j o, l[j]? = some o ∧ o.dst = some n ∧ loose bs i (j0 + j) = true
  | [], j0, n => by simp [blindT]
  | o :: l, j0, n => by
    simp only [blindT, Bool.or_eq_true, blindT_iff (l := l)]
    constructor
    · rintro (h | ⟨j, p, h1, h2, h3⟩)
      · cases e : o.dst with
        | none => rw [e] at h; cases h
        | some d =>
          rw [e] at h
          simp only [Bool.and_eq_true] at h
          have := Nat.eq_of_beq_eq_true h.1; subst this
          exact ⟨0, o, by simp, e, by simpa using h.2⟩
      · exact ⟨j + 1, p, by simpa using h1, h2, by rw [show j0 + (j + 1) = j0 + 1 + j by omega]; exact h3⟩
    · rintro ⟨j, p, h1, h2, h3⟩
      cases j with
      | zero => simp at h1; subst h1; refine .inl ?_; rw [h2]; simp only [Nat.beq_refl, Bool.true_and]; simpa using h3
      | succ j => exact .inr ⟨j, p, by simpa using h1, h2, by rw [show j0 + 1 + j = j0 + (j + 1) by omega]; exact h3⟩

theorem blindH_iff {i : Nat} : ∀ {l : List Oper} {j0 n : Nat}, blindH bs i l j0 n = true ↔ ∃ j o, l[j]? = some o ∧ owns o n = true ∧ loose bs i (j0 + j) = true ∧ j0 + j < i
  | [], j0, n => by simp [blindH]
  | o :: l, j0, n => by
    simp only [blindH, Bool.or_eq_true, blindH_iff (l := l), Bool.and_eq_true, Nat.blt_eq]
    constructor
    · rintro (h | ⟨j, p, h1, h2, h3⟩)
      · exact ⟨0, o, by simp, h.1, by simpa using h.2⟩
      · exact ⟨j + 1, p, by simpa using h1, h2, by rw [show j0 + (j + 1) = j0 + 1 + j by omega]; exact h3⟩
    · rintro ⟨j, p, h1, h2, h3⟩
      cases j with
      | zero => simp at h1; subst h1; exact .inl ⟨h2, by simpa using h3⟩
      | succ j => exact .inr ⟨j, p, by simpa using h1, h2, by rw [show j0 + 1 + j = j0 + (j + 1) by omega]; exact h3⟩

theorem loose_iff {i j : Nat} : loose bs i j = true ↔ i ≠ j ∧ j ∉ befOf bs i ∧ i ∉ befOf bs j := by
  unfold loose
  simp only [Bool.and_eq_true, Bool.not_eq_true']
  constructor
  · rintro ⟨⟨h1, h2⟩, h3⟩
    refine ⟨?_, ?_, ?_⟩
    · rintro rfl; rw [Nat.beq_refl] at h1; cases h1
    · intro h; rw [any_beq.2 h] at h2; cases h2
    · intro h; rw [any_beq.2 h] at h3; cases h3
  · rintro ⟨h1, h2, h3⟩
    refine ⟨⟨?_, ?_⟩, ?_⟩
    · cases e : Nat.beq i j with
      | true => exact absurd (Nat.eq_of_beq_eq_true e) h1
      | false => rfl
    · cases e : (befOf bs i).any (Nat.beq j) with
      | true => exact absurd (any_beq.1 e) h2
      | false => rfl
    · cases e : (befOf bs j).any (Nat.beq i) with
      | true => exact absurd (any_beq.1 e) h3
      | false => rfl

theorem dstAt_some {j n : Nat} : dstAt ops j = some n ↔ ∃ o, ops[j]? = some o ∧ o.dst = some n := by
  unfold dstAt
  cases e : ops[j]? with
  | none => simp
  | some o => simp

/-- What an operation may see of the text's order, it may see of what comes before it. -/
theorem restr_eq (R : Reg ops bs) {k i : Nat} (hD : Dsts ops fun j => k ≤ j ∧ j < i) : restr bs ops i ⟨tX ops s v fun j => k ≤ j ∧ j < i, hX ops s hv fun j => k ≤ j ∧ j < i⟩ = restr bs ops i ⟨tX ops s v (befK bs k i), hX ops s hv (befK bs k i)⟩ := by
  have hsub : ∀ j, befK bs k i j → k ≤ j ∧ j < i := fun j hj => ⟨hj.1, bef_lt R.good R.back i j hj.2⟩
  have hD' : Dsts ops (befK bs k i) := fun j o hj ho => hD j o (hsub j hj) ho
  unfold restr
  congr 1
  · funext n
    cases e : blindT bs i ops 0 n with
    | true => rfl
    | false =>
      simp only [cond_false]
      by_cases h : ∃ j, (k ≤ j ∧ j < i) ∧ dstAt ops j = some n
      · obtain ⟨j, hj, hd⟩ := h
        rw [tX_of R hj hd]
        have : j ∈ befOf bs i := by
          refine Classical.byContradiction fun hno => ?_
          obtain ⟨o, ho, hdo⟩ := dstAt_some.1 hd
          have hb : blindT bs i ops 0 n = true := blindT_iff.2 ⟨j, o, ho, hdo, by
            rw [Nat.zero_add]
            exact loose_iff.2 ⟨by omega, hno, fun h => by have := bef_lt R.good R.back _ _ h; omega⟩⟩
          rw [e] at hb; cases hb
        rw [tX_of R (X := befK bs k i) ⟨hj.1, this⟩ hd]
      · rw [tX_not h, tX_not fun ⟨j, hj, hd⟩ => h ⟨j, hsub j hj, hd⟩]
  · funext n
    cases e : blindH bs i ops 0 n with
    | true => rfl
    | false =>
      simp only [cond_false]
      by_cases h : ∃ j, (k ≤ j ∧ j < i) ∧ ownsAt ops j n
      · obtain ⟨j, hj, hd⟩ := h
        rw [hX_of R hD hj hd]
        have : j ∈ befOf bs i := by
          refine Classical.byContradiction fun hno => ?_
          obtain ⟨o, ho, hdo⟩ := hd
          have hb : blindH bs i ops 0 n = true := blindH_iff.2 ⟨j, o, ho, hdo, by
            rw [Nat.zero_add]
            exact ⟨loose_iff.2 ⟨by omega, hno, fun h => by have := bef_lt R.good R.back _ _ h; omega⟩, hj.2⟩⟩
          rw [e] at hb; cases hb
        rw [hX_of R hD' (X := befK bs k i) ⟨hj.1, this⟩ hd]
      · rw [hX_not h, hX_not fun ⟨j, hj, hd⟩ => h ⟨j, hsub j hj, hd⟩]
end
end Go.Proofs.Ytcijmfodhdigpaa.R1
