/- A state read by a specification: what the specification says of the machine then. -/
import Derived.Test.YtkimeoknckohfaaDoorR1EvOp2
namespace Go.Proofs.YtkimeoknckohfaaDoor.R1
variable {P : Program}

theorem assoc_mem.{u} {α : Type u} : ∀ {l : List (Nat × α)} {n : Nat} {x : α}, assoc l n = some x → (n, x) ∈ l
  | [], _, _, h => by cases h
  | (i, y) :: l, n, x, h => by
    simp only [assoc] at h
    cases e : Nat.beq i n with
    | true => rw [e] at h; injection h with h; subst h; rw [Nat.eq_of_beq_eq_true e]; simp
    | false => rw [e] at h; exact List.mem_cons_of_mem _ (assoc_mem h)

theorem any_beq {l : List Nat} {n : Nat} : (l.any (Nat.beq n)) = true ↔ n ∈ l := by
  rw [List.any_eq_true]
  constructor
  · rintro ⟨x, hx, h⟩; rw [Nat.eq_of_beq_eq_true h]; exact hx
  · intro h; exact ⟨n, h, Nat.beq_refl n⟩

theorem distinct_cons {n : Nat} {l : List Nat} (h : distinct (n :: l) = true) : n ∉ l ∧ distinct l = true := by
  simp only [distinct, Bool.and_eq_true, Bool.not_eq_true'] at h
  refine ⟨fun hm => ?_, h.2⟩
  rw [any_beq.2 hm] at h; exact absurd h.1 (by simp)

theorem assoc_of_mem.{u} {α : Type u} : ∀ {l : List (Nat × α)} {n : Nat} {x : α}, distinct (l.map (·.1)) = true → (n, x) ∈ l → assoc l n = some x
  | [], _, _, _, h => by cases h
  | (i, y) :: l, n, x, hd, h => by
    obtain ⟨h1, h2⟩ := distinct_cons hd
    simp only [assoc]
    rcases List.mem_cons.1 h with h | h
    · injection h with ha hb; subst ha; subst hb; simp
    · have : i ≠ n := by rintro rfl; exact h1 (List.mem_map.2 ⟨_, h, rfl⟩)
      have : Nat.beq i n = false := by cases e : Nat.beq i n with
        | true => exact absurd (Nat.eq_of_beq_eq_true e) this
        | false => rfl
      rw [this]; exact assoc_of_mem h2 h

theorem mem_actuals : ∀ {l : List (Nat × Option Nat)} {m : Nat}, m ∈ actuals l ↔ ∃ n, (n, some m) ∈ l
  | [], m => by simp [actuals]
  | (i, some k) :: l, m => by
    rw [actuals, List.mem_cons, mem_actuals]
    constructor
    · rintro (rfl | ⟨n, h⟩)
      · exact ⟨i, by simp⟩
      · exact ⟨n, List.mem_cons_of_mem _ h⟩
    · rintro ⟨n, h⟩
      rcases List.mem_cons.1 h with h | h
      · injection h with _ h; injection h with h; exact .inl h
      · exact .inr ⟨n, h⟩
  | (i, none) :: l, m => by
    rw [actuals, mem_actuals]
    constructor
    · rintro ⟨n, h⟩; exact ⟨n, List.mem_cons_of_mem _ h⟩
    · rintro ⟨n, h⟩
      rcases List.mem_cons.1 h with h | h
      · injection h with _ h; cases h
      · exact ⟨n, h⟩

theorem actuals_one : ∀ {l : List (Nat × Option Nat)} {n k m : Nat}, distinct (actuals l) = true → (n, some m) ∈ l → (k, some m) ∈ l → n = k := by
  intro l
  induction l with
  | nil => intro n k m _ h1; cases h1
  | cons p l ih =>
    intro n k m hd h1 h2
    obtain ⟨i, x⟩ := p
    cases x with
    | none =>
      rcases List.mem_cons.1 h1 with h | h1
      · injection h with _ h; cases h
      · rcases List.mem_cons.1 h2 with h | h2
        · injection h with _ h; cases h
        · exact ih hd h1 h2
    | some z =>
      obtain ⟨ha, hb⟩ := distinct_cons hd
      rcases List.mem_cons.1 h1 with e | g1
      · rcases List.mem_cons.1 h2 with e' | g2
        · injection e with e1 _; injection e' with e2 _; exact e1.trans e2.symm
        · injection e with _ e; injection e with e; subst e; exact absurd (mem_actuals.2 ⟨k, g2⟩) ha
      · rcases List.mem_cons.1 h2 with e' | g2
        · injection e' with _ e; injection e with e; subst e; exact absurd (mem_actuals.2 ⟨n, g1⟩) ha
        · exact ih hb g1 g2

/-- What is given in reading, and what is sought. -/
structure Rd where
  S : Nat → Prop
  S' : Nat → Prop
  w : World
  φ : Nat → Value
  φ' : Nat → Value
  h : Nat → B
  h' : Nat → B
  ok : Nat → Prop
  M : List (Nat × Option Nat)
  Z : List Nat

structure Rd.Ok (q : Rd) : Prop where
  b : ∀ n, RelB q.S q.w q.φ q.h q.ok (q.φ n) (q.h n)
  s : ∀ g, q.S g → q.S' g
  frz : ∀ m ∈ q.Z, (q.h m).mut = true → ∀ g, Bk (q.φ m) g → q.S' g
  dist : distinct (q.M.map (·.1)) = true
  live : ∀ p ∈ q.M, (q.h' p.1).live = true
  some : ∀ n m, (n, Option.some m) ∈ q.M → q.φ' n = q.φ m
  none : ∀ n, (n, Option.none) ∈ q.M → q.φ' n = .slice Option.none 0 0
  glob : ∀ n, isGlob n = true → (q.h n).live = true → (q.h' n).live = true ∧ q.φ' n = q.φ n
  noglob : ∀ p ∈ q.M, isGlob p.1 = false

def Rd.fin (q : Rd) (r : Ren) : Prop := (∀ p ∈ r.map, p ∈ q.M) ∧ ∀ z ∈ r.frz, z ∈ q.Z

def Ren.le (r r' : Ren) : Prop := (∀ p ∈ r.map, p ∈ r'.map) ∧ ∀ z ∈ r.frz, z ∈ r'.frz

theorem Ren.le.refl (r : Ren) : r.le r := ⟨fun _ h => h, fun _ h => h⟩
theorem Ren.le.trans {a b c : Ren} (h : a.le b) (k : b.le c) : a.le c := ⟨fun p hp => k.1 p (h.1 p hp), fun z hz => k.2 z (h.2 z hz)⟩
theorem Rd.fin.le {q : Rd} {r r' : Ren} (h : q.fin r') (k : r.le r') : q.fin r := ⟨fun p hp => h.1 p (k.1 p hp), fun z hz => h.2 z (k.2 z hz)⟩

theorem sameName_sound {q : Rd} (ok : q.Ok) {map : List (Nat × Option Nat)} (hm : ∀ p ∈ map, p ∈ q.M) {n m : Nat} (h : sameName map n m = true) (hl : (q.h m).live = true) : (q.h' n).live = true ∧ q.φ' n = q.φ m := by
  unfold sameName at h
  split at h
  · rename_i x e
    have := Nat.eq_of_beq_eq_true h
    subst this
    have hp := hm _ (assoc_mem e)
    exact ⟨ok.live _ hp, ok.some _ _ hp⟩
  · cases h
  · rw [Bool.and_eq_true] at h
    have := Nat.eq_of_beq_eq_true h.2
    subst this
    exact ok.glob n h.1 hl

theorem litEq_sound {q : Rd} (ok : q.Ok) {map : List (Nat × Option Nat)} (hm : ∀ p ∈ map, p ∈ q.M) : ∀ {c c' : C} {v : Value}, litEq map c c' = true → RelC q.S q.w q.φ q.h c' v → RelC q.S' q.w q.φ' q.h' c v := by
  intro c
  induction c with
  | row n =>
    intro c' v h hr
    cases c' with
    | row m => obtain ⟨hl, hv, hx⟩ := hr; obtain ⟨h1, h2⟩ := sameName_sound ok hm h hl; exact ⟨h1, by rw [h2]; exact hv, hx⟩
    | _ => cases h
  | ptr n i sz off =>
    intro c' v h hr
    cases c' with
    | ptr m i' sz' off' =>
      simp only [litEq, Bool.and_eq_true] at h
      obtain ⟨⟨⟨h0, h1⟩, h2⟩, h3⟩ := h
      have := Nat.eq_of_beq_eq_true h1; subst this
      have := Nat.eq_of_beq_eq_true h2; subst this
      have := Nat.eq_of_beq_eq_true h3; subst this
      obtain ⟨hl, g, hg, hv⟩ := hr
      obtain ⟨k1, k2⟩ := sameName_sound ok hm h0 hl
      exact ⟨k1, g, by rw [k2]; exact hg, hv⟩
    | _ => cases h
  | nils => intro c' v h hr; cases c' <;> first | exact hr | cases h
  | nilp => intro c' v h hr; cases c' <;> first | exact hr | cases h
  | nilf => intro c' v h hr; cases c' <;> first | exact hr | cases h
  | nilm => intro c' v h hr; cases c' <;> first | exact hr | cases h
  | fn f =>
    intro c' v h hr
    cases c' with
    | fn g => have := Nat.eq_of_beq_eq_true h; subst this; exact hr
    | _ => cases h
  | cap g c ihg ihc =>
    intro c' v h hr
    cases c' with
    | cap g' c'' =>
      simp only [litEq, Bool.and_eq_true] at h
      obtain ⟨f, cs, x, h1, h2, hv⟩ := hr
      exact ⟨f, cs, x, ihg h.1 h1, ihc h.2 h2, hv⟩
    | _ => cases h
  | _ => intro c' v h; cases c' <;> cases h

theorem CK_sound {q : Rd} (ok : q.Ok) : ∀ {k : CK} {c : C} {r r' : Ren} {x : k.T}, k.ext q.h c r = some (x, r') → r.le r' ∧ (q.fin r' → ∀ {v : Value}, RelC q.S q.w q.φ q.h c v → RelC q.S' q.w q.φ' q.h' (k.mk x) v) := by
  intro k
  induction k with
  | int k =>
    intro c r r' x h
    simp only [CK.ext] at h
    split at h
    · split at h
      · rename_i e; subst e; injection h with h; injection h with h1 h2; subst h1; subst h2; exact ⟨.refl _, fun _ _ hr => hr⟩
      · cases h
    · cases h
  | bool =>
    intro c r r' x h
    simp only [CK.ext] at h
    split at h
    · injection h with h; injection h with h1 h2; subst h1; subst h2; exact ⟨.refl _, fun _ _ hr => hr⟩
    · cases h
  | str =>
    intro c r r' x h
    simp only [CK.ext] at h
    split at h
    · injection h with h; injection h with h1 h2; subst h1; subst h2; exact ⟨.refl _, fun _ _ hr => hr⟩
    · cases h
  | sl u =>
    intro c r r' x h
    simp only [CK.ext] at h
    split at h
    · rename_i l hl
      injection h with h; injection h with h1 h2; subst h1; subst h2
      refine ⟨?_, fun hf v hr => ?_⟩
      · cases c <;> first | exact .refl _ | exact ⟨fun _ h => h, fun z hz => List.mem_cons_of_mem _ hz⟩
      · refine rep_dataSl ok.b ok.s hr hl fun n hn hrow g hg => ?_
        subst hn
        exact ok.frz n (hf.2 n (by simp)) (mut_row hrow) g hg
    · cases h
  | slx u =>
    intro c r r' x h
    simp only [CK.ext] at h
    split at h
    · split at h
      · rename_i e
        subst e
        injection h with h; injection h with h1 h2; subst h1; subst h2
        exact ⟨.refl _, fun _ v hr => ⟨Rep.mono ok.s (fun _ _ => rfl) hr.1, hr.2⟩⟩
      · cases h
    · cases h
  | row n =>
    intro c r r' x h
    simp only [CK.ext] at h
    split at h
    · rename_i m
      injection h with h; injection h with h1 h2; subst h2
      refine ⟨⟨fun p hp => List.mem_cons_of_mem _ hp, fun _ h => h⟩, fun hf v hr => ?_⟩
      have hp := hf.1 (n, some m) (by simp)
      obtain ⟨_, hv, hx⟩ := hr
      exact ⟨ok.live _ hp, by rw [ok.some _ _ hp]; exact hv, hx⟩
    · injection h with h; injection h with h1 h2; subst h2
      refine ⟨⟨fun p hp => List.mem_cons_of_mem _ hp, fun _ h => h⟩, fun hf v hr => ?_⟩
      have hp := hf.1 (n, none) (by simp)
      have hv : v = .slice none 0 0 := hr
      exact ⟨ok.live _ hp, by rw [ok.none _ hp]; exact hv, _, _, _, hv⟩
    · cases h
  | box n =>
    intro c r r' x h
    simp only [CK.ext] at h
    split at h
    · rename_i m i sz off
      split at h
      · injection h with h; injection h with h1 h2; subst h2
        refine ⟨⟨fun p hp => List.mem_cons_of_mem _ hp, fun _ h => h⟩, fun hf v hr => ?_⟩
        have hp := hf.1 (n, some m) (by simp)
        obtain ⟨_, g, hg, hv⟩ := hr
        exact ⟨ok.live _ hp, g, by rw [ok.some _ _ hp]; exact hg, by simpa using hv⟩
      · cases h
    · cases h
  | tail n sz =>
    intro c r r' x h
    simp only [CK.ext] at h
    split at h
    · rename_i m i sz'
      cases e : sameName r.map n m && Nat.beq sz' sz with
      | false => rw [e] at h; cases h
      | true =>
        rw [e] at h
        injection h with h; injection h with h1 h2; subst h1; subst h2
        rw [Bool.and_eq_true] at e
        have := Nat.eq_of_beq_eq_true e.2; subst this
        refine ⟨.refl _, fun hf v hr => ?_⟩
        obtain ⟨hl, A, l, c, hφ, hi, hv⟩ := hr
        obtain ⟨k1, k2⟩ := sameName_sound ok hf.1 e.1 hl
        exact ⟨k1, A, l, c, by rw [k2]; exact hφ, hi, hv⟩
    · cases h
  | dp u =>
    intro c r r' x h
    simp only [CK.ext] at h
    split at h
    · rename_i u' y off
      split at h
      · split at h
        · rename_i e
          subst e
          injection h with h; injection h with h1 h2; subst h1; subst h2
          refine ⟨.refl _, fun _ v hr => ?_⟩
          exact RelC.mono (φ' := q.φ') (h' := q.h') (h := fun _ => .free) (φ := q.φ) ok.s (fun _ _ => rfl) (fun n hn => by cases hn) (c := .dptr u' y 0) hr
        · cases h
      · cases h
    · rename_i m i sz off
      split at h
      · rename_i tt cs hm
        split at h
        · rename_i y hy
          injection h with h; injection h with h1 h2; subst h1; subst h2
          refine ⟨⟨fun _ h => h, fun z hz => by simp [hz]⟩, fun hf v hr => ?_⟩
          obtain ⟨_, g, hg, hv⟩ := hr
          have hb := ok.b m
          rw [hm] at hb
          obtain ⟨g', vals, hφ, hcell, hall, hok⟩ := hb
          rw [hφ] at hg
          injection hg with hg
          subst hg
          have hrep : Rep q.S' q.w u y vals.toList := rep_datum ok.b ok.s hall hy fun n hn hrow g2 hg2 => ok.frz n (hf.2 n (by simp [hn])) (mut_row hrow) g2 hg2
          refine ⟨⟨g', 0, none⟩, vals.toList, ?_, hrep, ?_, fun _ => ok.frz m (hf.2 m (by simp)) (by rw [hm]; rfl) g' (by rw [hφ]; exact bk_pointer.2 rfl)⟩
          · rw [hv]; simp [Addr.add]
          · intro j w' hj
            rw [add_at]
            have : q.w.cell? ⟨g', 0 + j, none⟩ = some w' := by
              simp only [World.cell?, hcell]
              simpa using hj
            exact this
        · cases h
      · cases h
    · cases h
  | lit c0 =>
    intro c r r' x h
    simp only [CK.ext] at h
    cases e : litEq r.map c0 c with
    | false => rw [e] at h; cases h
    | true =>
      rw [e] at h
      injection h with h; injection h with h1 h2; subst h2
      exact ⟨.refl _, fun hf v hr => litEq_sound ok hf.1 e hr⟩
  | mapr n =>
    intro c r r' x h
    simp only [CK.ext] at h
    split at h
    · rename_i b m
      injection h with h; injection h with h1 h2; subst h1; subst h2
      refine ⟨⟨fun p hp => List.mem_cons_of_mem _ hp, fun _ h => h⟩, fun hf v hr => ?_⟩
      have hp := hf.1 (n, some m) (by simp)
      obtain ⟨_, q, h1, h2, h3⟩ := hr
      exact ⟨ok.live _ hp, q, h1, h2, by rw [ok.some _ _ hp]; exact h3⟩
    · injection h with h; injection h with h1 h2; subst h1; subst h2
      refine ⟨⟨fun p hp => List.mem_cons_of_mem _ hp, fun _ h => h⟩, fun hf v hr => ?_⟩
      have hp := hf.1 (n, none) (by simp)
      have hv : v = .map none := hr
      exact ⟨ok.live _ hp, none, hv, rfl, by rw [ok.none _ hp]; rfl⟩
    · cases h
  | mapl n =>
    intro c r r' x h
    simp only [CK.ext] at h
    split at h
    · rename_i b m
      cases e : sameName r.map n m with
      | false => rw [e] at h; cases h
      | true =>
        rw [e] at h
        injection h with h; injection h with h1 h2; subst h1; subst h2
        refine ⟨.refl _, fun hf v hr => ?_⟩
        obtain ⟨hl, q, h1, h2, h3⟩ := hr
        obtain ⟨k1, k2⟩ := sameName_sound ok hf.1 e hl
        exact ⟨k1, q, h1, h2, by rw [k2]; exact h3⟩
    · cases h
  | cap g c ihg ihc =>
    intro c' r r' x h
    simp only [CK.ext] at h
    split at h
    · rename_i g' c''
      split at h
      · rename_i y r1 e1
        split at h
        · rename_i z r2 e2
          injection h with h; injection h with h1 h2; subst h1; subst h2
          obtain ⟨l1, k1⟩ := ihg e1
          obtain ⟨l2, k2⟩ := ihc e2
          refine ⟨l1.trans l2, fun hf v hr => ?_⟩
          obtain ⟨f, cs, xx, h1, h2, hv⟩ := hr
          exact ⟨f, cs, xx, k1 (hf.le l2) h1, k2 hf h2, hv⟩
        · cases h
      · cases h
    · cases h

theorem CKs_sound {q : Rd} (ok : q.Ok) : ∀ {ks : List CK} {cs : List C} {r r' : Ren} {x : CKsT ks}, CKsExt q.h ks cs r = some (x, r') → r.le r' ∧ (q.fin r' → ∀ {vs : List Value}, All2 (RelC q.S q.w q.φ q.h) cs vs → All2 (RelC q.S' q.w q.φ' q.h') (CKsMk ks x) vs)
  | [], cs, r, r', x, h => by
    simp only [CKsExt] at h
    split at h
    · injection h with h; injection h with h1 h2; subst h2
      exact ⟨.refl _, fun _ vs ha => by cases vs <;> first | trivial | exact ha.elim⟩
    · cases h
  | k :: ks, cs, r, r', x, h => by
    simp only [CKsExt] at h
    split at h
    · rename_i c cs
      split at h
      · rename_i y r1 e1
        split at h
        · rename_i z r2 e2
          injection h with h; injection h with h1 h2; subst h1; subst h2
          obtain ⟨l1, k1⟩ := CK_sound ok e1
          obtain ⟨l2, k2⟩ := CKs_sound ok e2
          refine ⟨l1.trans l2, fun hf vs ha => ?_⟩
          cases vs with
          | nil => exact ha.elim
          | cons v vs => exact ⟨k1 (hf.le l2) ha.1, k2 hf ha.2⟩
        · cases h
      · cases h
    · cases h

theorem VK_sound {q : Rd} (ok : q.Ok) {k : VK} {v : V} {r r' : Ren} {x : k.T} (h : k.ext q.h v r = some (x, r')) : r.le r' ∧ (q.fin r' → ∀ {vv : Value}, RelV q.S q.w q.φ q.h v vv → RelW q.S' q.w q.φ' q.h' (k.mkW x) vv) := by
  cases k with
  | c k =>
    simp only [VK.ext] at h
    split at h
    · exact CK_sound ok h
    · cases h
  | agg ks =>
    simp only [VK.ext] at h
    split at h
    · obtain ⟨l, k⟩ := CKs_sound ok h
      refine ⟨l, fun hf vv hr => ?_⟩
      obtain ⟨cs, hv, ha⟩ := hr
      exact ⟨cs, hv, k hf ha⟩
    · cases h

theorem VKs_sound {q : Rd} (ok : q.Ok) {st : St} (hst : st.h = q.h) {tv : Nat → Value} (ht : ∀ i, RelV q.S q.w q.φ q.h (st.t i) (tv i)) : ∀ {ts : List (Nat × VK)} {r r' : Ren} {x : VKsT ts}, VKsExt st ts r = some (x, r') →
    r.le r' ∧ (q.fin r' → ∀ i, RelV q.S' q.w q.φ' q.h' (tempsOf ts x i) (tv i))
  | [], r, r', x, h => by
    simp only [VKsExt] at h
    injection h with h; injection h with h1 h2; subst h2
    exact ⟨.refl _, fun _ i => trivial⟩
  | (n, k) :: ts, r, r', x, h => by
    simp only [VKsExt, hst] at h
    split at h
    · rename_i y r1 e1
      split at h
      · rename_i z r2 e2
        injection h with h; injection h with h1 h2; subst h1; subst h2
        obtain ⟨l1, k1⟩ := VK_sound ok e1
        obtain ⟨l2, k2⟩ := VKs_sound ok hst ht e2
        refine ⟨l1.trans l2, fun hf i => ?_⟩
        simp only [tempsOf]
        by_cases e : i = n
        · subst e; rw [upd_same]; exact k1 (hf.le l2) (ht i)
        · rw [upd_ne _ _ e]; exact k2 hf i
      · cases h
    · cases h

/-- The blocks. -/
theorem BKs_sound {q : Rd} (ok : q.Ok) (hφ : ∀ n, (q.h n).live = true → True) : ∀ {bs : List (Nat × BK)} {r r' : Ren} {x : BKsT bs} (base : Nat → B), BKsExt q.h bs r = some (x, r') →
    r.le r' ∧ (q.fin r' → ∀ n, (assoc bs n).isSome = true → (∃ m, (n, m) ∈ q.M ∧ ∀ m', m = some m' → (q.h m').mut = true) ∧ RelB q.S' q.w q.φ' q.h' q.ok (q.φ' n) (blocksOf base bs x n) ∧ (blocksOf base bs x n).mut = true)
  | [], r, r', x, base, h => by
    simp only [BKsExt] at h
    injection h with h; injection h with h1 h2; subst h2
    exact ⟨.refl _, fun _ n hn => by cases hn⟩
  | (i, k) :: bs, r, r', x, base, h => by
    simp only [BKsExt] at h
    split at h
    · rename_i m em
      split at h
      · rename_i y r1 e1
        split at h
        · rename_i z r2 e2
          injection h with h; injection h with h1 h2; subst h1; subst h2
          obtain ⟨l2, k2⟩ := BKs_sound ok hφ base e2
          have l1 : r.le r1 ∧ (q.fin r1 → (i, m) ∈ q.M → (∀ m', m = some m' → (q.h m').mut = true) ∧ RelB q.S' q.w q.φ' q.h' q.ok (q.φ' i) (k.mk y) ∧ (k.mk y).mut = true) := by
            cases k with
            | row e u =>
              simp only [BK.ext] at e1
              split at e1
              · rename_i m'
                split at e1
                · rename_i e' u' l eh
                  cases hb : Nat.beq e' e with
                  | false => rw [hb] at e1; cases e1
                  | true =>
                    rw [hb] at e1
                    simp only [cond_true] at e1
                    split at e1
                    · rename_i eq
                      subst eq
                      have := Nat.eq_of_beq_eq_true hb
                      subst this
                      injection e1 with e1; injection e1 with h1 h2; subst h1; subst h2
                      refine ⟨.refl _, fun hf hm => ⟨fun k hk => (by cases hk; rw [eh]; rfl), ?_, rfl⟩⟩
                      have hb := ok.b m'
                      rw [eh] at hb
                      rw [ok.some _ _ hm]
                      obtain ⟨a1, flat, a2, a3, a4⟩ := hb
                      exact ⟨a1, flat, a2, a3.mono fun _ _ hr => Rep.mono ok.s (fun _ _ => rfl) hr, a4⟩
                    · cases e1
                · cases e1
              · split at e1
                · rename_i hpos
                  injection e1 with e1; injection e1 with h1 h2; subst h1; subst h2
                  refine ⟨.refl _, fun hf hm => ⟨fun k hk => (by cases hk), ?_, rfl⟩⟩
                  rw [ok.none _ hm]
                  exact ⟨by rwa [Nat.blt_eq] at hpos, [], World.ownsRow_nil _ _ _ _, rfl, fun g hg => by cases hg⟩
                · cases e1
            | box t ks =>
              simp only [BK.ext] at e1
              split at e1
              · rename_i m'
                split at e1
                · rename_i t' cs eh
                  cases hb : Nat.beq t' t with
                  | false => rw [hb] at e1; cases e1
                  | true =>
                    rw [hb] at e1
                    simp only [cond_true] at e1
                    have := Nat.eq_of_beq_eq_true hb
                    subst this
                    obtain ⟨l, kk⟩ := CKs_sound ok e1
                    refine ⟨l, fun hf hm => ⟨fun k hk => (by cases hk; rw [eh]; rfl), ?_, rfl⟩⟩
                    have hb := ok.b m'
                    rw [eh] at hb
                    rw [ok.some _ _ hm]
                    obtain ⟨g, vals, a1, a2, a3, a4⟩ := hb
                    exact ⟨g, vals, a1, a2, kk hf a3, a4⟩
                · cases e1
              · cases e1
            | own e o =>
              simp only [BK.ext] at e1
              split at e1
              · rename_i m'
                split at e1
                · rename_i e' o' l eh
                  cases hb : Nat.beq e' e with
                  | false => rw [hb] at e1; cases e1
                  | true =>
                    rw [hb] at e1
                    simp only [cond_true] at e1
                    split at e1
                    · rename_i eq
                      subst eq
                      have := Nat.eq_of_beq_eq_true hb
                      subst this
                      injection e1 with e1; injection e1 with h1 h2; subst h1; subst h2
                      refine ⟨.refl _, fun hf hm => ⟨fun k hk => (by cases hk; rw [eh]; rfl), ?_, rfl⟩⟩
                      have hb := ok.b m'
                      rw [eh] at hb
                      rw [ok.some _ _ hm]
                      obtain ⟨s, F, a1, a2, a3, a4⟩ := hb
                      exact ⟨s, F, a1, a2.mono (fun x vs F hq h => RepO.mono ok.s (fun _ _ => rfl) hq h) (fun _ _ => rfl), a3, a4⟩
                    · cases e1
                · cases e1
              · split at e1
                · rename_i hpos
                  injection e1 with e1; injection e1 with h1 h2; subst h1; subst h2
                  refine ⟨.refl _, fun hf hm => ⟨fun k hk => (by cases hk), ?_, rfl⟩⟩
                  rw [ok.none _ hm]
                  exact ⟨.slice none 0 0, [], ⟨rfl, rfl⟩, ⟨[], [], by rwa [Nat.blt_eq] at hpos, World.ownsRow_nil _ _ _ _, ⟨rfl, rfl⟩, rfl⟩, List.nodup_nil, fun g hg => (by cases hg)⟩
                · cases e1
            | mp t ka va ku vu =>
              simp only [BK.ext] at e1
              split at e1
              · rename_i m'
                split at e1
                · rename_i t' ka' va' ku' vu' l eh
                  cases hb : Nat.beq t' t && sameB ka' ka && sameB va' va with
                  | false => rw [hb] at e1; cases e1
                  | true =>
                    rw [hb] at e1
                    simp only [cond_true] at e1
                    simp only [Bool.and_eq_true] at hb
                    obtain ⟨⟨hb1, hb2⟩, hb3⟩ := hb
                    have := Nat.eq_of_beq_eq_true hb1
                    subst this
                    have := sameB_eq hb2
                    subst this
                    have := sameB_eq hb3
                    subst this
                    split at e1
                    · rename_i eq
                      obtain ⟨eq1, eq2⟩ := eq
                      subst eq1; subst eq2
                      injection e1 with e1; injection e1 with h1 h2; subst h1; subst h2
                      refine ⟨.refl _, fun hf hm => ⟨fun k hk => (by cases hk; rw [eh]; rfl), ?_, rfl⟩⟩
                      have hb := ok.b m'
                      rw [eh] at hb
                      rw [ok.some _ _ hm]
                      obtain ⟨a1, a2, a3⟩ := hb
                      refine ⟨a1, a2, ?_⟩
                      rcases a3 with a3 | ⟨r0, es, clock, b1, b2, b3, b4⟩
                      · exact .inl a3
                      · exact .inr ⟨r0, es, clock, b1, b2, b3.mono fun _ _ h => ⟨h.1.mono ok.s (fun _ _ => rfl), h.2.mono ok.s (fun _ _ => rfl)⟩, b4⟩
                    · cases e1
                · cases e1
              · split at e1
                · rename_i hpos
                  rw [Bool.and_eq_true] at hpos
                  injection e1 with e1; injection e1 with h1 h2; subst h1; subst h2
                  refine ⟨.refl _, fun hf hm => ⟨fun k hk => (by cases hk), ?_, rfl⟩⟩
                  rw [ok.none _ hm]
                  exact ⟨hpos.1, hpos.2, .inl ⟨rfl, rfl⟩⟩
                · cases e1
          refine ⟨l1.1.trans l2, fun hf n hn => ?_⟩
          have hm : (i, m) ∈ q.M := hf.1 _ ((l1.1.trans l2).1 _ (assoc_mem em))
          simp only [blocksOf]
          by_cases e : n = i
          · subst e
            rw [upd_same]
            obtain ⟨q1, q2, q3⟩ := l1.2 (hf.le l2) hm
            exact ⟨⟨m, hm, q1⟩, q2, q3⟩
          · rw [upd_ne _ _ e]
            refine k2 hf n ?_
            have : Nat.beq i n = false := by cases ee : Nat.beq i n with
              | true => exact absurd (Nat.eq_of_beq_eq_true ee).symm e
              | false => rfl
            rw [assoc, this] at hn; exact hn
        · cases h
      · cases h
    · cases h

theorem blocksOf_mut (base : Nat → B) : ∀ {bs : List (Nat × BK)} (x : BKsT bs) {n : Nat}, (assoc bs n).isSome = true → (blocksOf base bs x n).mut = true
  | [], _, n, h => by cases h
  | (i, k) :: bs, x, n, h => by
    simp only [blocksOf]
    by_cases e : n = i
    · subst e; rw [upd_same]; cases k <;> rfl
    · rw [upd_ne _ _ e]
      have : Nat.beq i n = false := by cases ee : Nat.beq i n with
        | true => exact absurd (Nat.eq_of_beq_eq_true ee).symm e
        | false => rfl
      rw [assoc, this] at h; exact blocksOf_mut base x.2 h

theorem blocksOf_none (base : Nat → B) : ∀ {bs : List (Nat × BK)} (x : BKsT bs) {n : Nat}, assoc bs n = none → blocksOf base bs x n = base n
  | [], _, n, _ => rfl
  | (i, k) :: bs, x, n, h => by
    simp only [blocksOf]
    by_cases e : n = i
    · subst e; simp [assoc] at h
    · rw [upd_ne _ _ e]
      have : Nat.beq i n = false := by cases ee : Nat.beq i n with
        | true => exact absurd (Nat.eq_of_beq_eq_true ee).symm e
        | false => rfl
      rw [assoc, this] at h; exact blocksOf_none base x.2 h

theorem RelB.still {S S' : Nat → Prop} {w : World} {φ φ' : Nat → Value} {h h' : Nat → B} {ok ok' : Nat → Prop} {b : B} {v : Value} (hS : ∀ g, S g → S' g) (hb : b.mut = false) (hr : RelB S w φ h ok v b) : RelB S' w φ' h' ok' v b := by
  cases b with
  | free => trivial
  | gone => trivial
  | ro e u l =>
    obtain ⟨hn, flat, cap, hl, hc, hv⟩ := hr
    refine ⟨hn, flat, cap, hl.mono fun _ _ => Rep.mono hS (fun _ _ => rfl), hc, ?_⟩
    rcases hv with hv | ⟨g, hv, hm, hs⟩
    · exact .inl hv
    · exact .inr ⟨g, hv, hm, fun hne => hS g (hs hne)⟩
  | glo q => obtain ⟨g, ob, h1, h2, h3, h4⟩ := hr; exact ⟨g, ob, h1, h2, h3, hS g h4⟩
  | row => cases hb
  | box => cases hb
  | own => cases hb
  | opn => cases hb
  | mp => cases hb

def extS (S : Nat → Prop) (φ : Nat → Value) (h : Nat → B) (r : Ren) : Nat → Prop := fun g => S g ∨ ∃ k, (h k).mut = true ∧ k ∈ r.frz ∧ Bk (φ k) g

def extφ (φ : Nat → Value) (r : Ren) : Nat → Value := fun n => match assoc r.map n with
  | some (some m) => φ m
  | some none => .slice none 0 0
  | none => φ n

structure NamesOk (s : Spec) (r : Ren) : Prop where
  d1 : distinct (r.map.map (·.1)) = true
  d2 : distinct (actuals r.map) = true
  blocks : ∀ p ∈ r.map, (assoc s.blocks p.1).isSome = true
  glob : ∀ n, (assoc s.blocks n).isSome = true → isGlob n = false
  frz : ∀ z ∈ r.frz, z ∉ actuals r.map

theorem namesOk_iff {s : Spec} {r : Ren} (h : namesOk s.blocks r = true) : NamesOk s r := by
  simp only [namesOk, Bool.and_eq_true, List.all_eq_true, Bool.not_eq_true'] at h
  obtain ⟨⟨⟨⟨h1, h2⟩, h3⟩, h4⟩, h5⟩ := h
  refine ⟨h1, h2, h3, fun n hn => ?_, fun z hz hm => ?_⟩
  · obtain ⟨k, hk⟩ := Option.isSome_iff_exists.1 hn
    exact h4 _ (assoc_mem hk)
  · have := h5 z hz; rw [any_beq.2 hm] at this; cases this

theorem ext_some {s : Spec} {st : St} {x : s.V} {r : Ren} (h : s.ext st = some (x, r)) : ∃ r1, VKsExt st s.temps ⟨s.ren, []⟩ = some (x.1, r1) ∧ BKsExt st.h s.blocks r1 = some (x.2, r) ∧ NamesOk s r := by
  unfold Spec.ext at h
  split at h
  · rename_i y r1 e1
    split at h
    · rename_i z r2 e2
      cases hb : namesOk s.blocks r2 with
      | false => rw [hb] at h; cases h
      | true =>
        rw [hb] at h
        injection h with h; injection h with h1 h2; subst h1; subst h2
        exact ⟨r1, e1, e2, namesOk_iff hb⟩
    · cases h
  · cases h

theorem ext_sound {cx : Cx} (hcx : ∀ n, isGlob n = false → cx.glob n = .free) {φ : Nat → Value} {S : Nat → Prop} {w : World} {st : St} (m : RelH cx φ S st.h w) {tv : Nat → Value} (ht : ∀ i, RelV S w φ st.h (st.t i) (tv i))
    {s : Spec} {x : s.V} {r : Ren} (h : s.ext st = some (x, r)) (φ0 : Nat → Value) (hkp : ∀ n, isKept n = true → ((s.st cx.glob x).h n).live = true → pv (extφ φ r n) = pv (φ0 n)) :
    RelH { cx with φ0 := φ0 } (extφ φ r) (extS S φ st.h r) (s.st cx.glob x).h w ∧ (∀ i, RelV (extS S φ st.h r) w (extφ φ r) (s.st cx.glob x).h ((s.st cx.glob x).t i) (tv i)) ∧ NamesOk s r ∧
      ∀ n, (assoc s.blocks n).isSome = true → ∃ m', (n, m') ∈ r.map ∧ ∀ k, m' = some k → (st.h k).mut = true := by
  obtain ⟨r1, e1, e2, hn⟩ := ext_some h
  let q : Rd := ⟨S, extS S φ st.h r, w, φ, extφ φ r, st.h, blocksOf cx.glob s.blocks x.2, cx.ok, r.map, r.frz⟩
  have ok : q.Ok := by
    refine ⟨m.b, fun g hg => .inl hg, fun k hk hrow g hg => .inr ⟨k, hrow, hk, hg⟩, hn.d1, fun p hp => live_of_mut (blocksOf_mut _ _ (hn.blocks p hp)), fun n k hk => ?_, fun n hk => ?_, fun n hg hl => ?_, fun p hp => hn.glob _ (hn.blocks p hp)⟩
    · show extφ φ r n = φ k
      simp [extφ, assoc_of_mem hn.d1 hk]
    · show extφ φ r n = _
      simp [extφ, assoc_of_mem hn.d1 hk]
    · have hb : assoc s.blocks n = none := by
        cases e : assoc s.blocks n with
        | none => rfl
        | some k => have := hn.glob n (by rw [e]; rfl); rw [this] at hg; cases hg
      have hr : assoc r.map n = none := by
        cases e : assoc r.map n with
        | none => rfl
        | some k => have := hn.blocks _ (assoc_mem e); simp only [hb] at this; cases this
      refine ⟨?_, by show extφ φ r n = φ n; simp [extφ, hr]⟩
      show (blocksOf cx.glob s.blocks x.2 n).live = true
      rw [blocksOf_none _ _ hb, ← (m.gl n hg).1]; exact hl
  obtain ⟨l1, k1⟩ := VKs_sound ok rfl ht e1
  obtain ⟨l2, k2⟩ := BKs_sound ok (fun _ _ => trivial) cx.glob e2
  have fin : q.fin r := ⟨fun _ h => h, fun _ h => h⟩
  have hbs := k2 fin
  have hmut : ∀ n, ((s.st cx.glob x).h n).mut = true → (assoc s.blocks n).isSome = true := by
    intro n hm
    cases e : assoc s.blocks n with
    | some k => rfl
    | none =>
      have e3 : (s.st cx.glob x).h n = cx.glob n := blocksOf_none _ _ e
      rw [e3] at hm
      cases hg : isGlob n with
      | true => have := m.gl n hg; rw [← this.1, this.2] at hm; cases hm
      | false => rw [hcx n hg] at hm; cases hm
  have src : ∀ n g, ((s.st cx.glob x).h n).mut = true → Bk (extφ φ r n) g → ∃ k, (n, some k) ∈ r.map ∧ (st.h k).mut = true ∧ Bk (φ k) g := by
    intro n g hm hg
    obtain ⟨⟨m', hmem, hmm⟩, _⟩ := hbs n (hmut n hm)
    cases m' with
    | none => rw [show extφ φ r n = .slice none 0 0 by simp [extφ, assoc_of_mem hn.d1 hmem]] at hg; cases hg
    | some k => rw [show extφ φ r n = φ k by simp [extφ, assoc_of_mem hn.d1 hmem]] at hg; exact ⟨k, hmem, hmm k rfl, hg⟩
  refine ⟨⟨fun n => ?_, fun n k g hnk hmn hmk hgn hgk => ?_, fun n g hmn hg hS => ?_, fun g hS hlt => ?_, fun g hS => ?_, fun g hgl hl => ?_, fun n hg => ?_, hkp, ⟨m.keep.os, m.keep.tape, m.keep.output, m.keep.size, m.keep.block⟩⟩, k1 (fin.le l2), hn, fun n hb => (hbs n hb).1⟩
  · cases e : assoc s.blocks n with
    | some k => exact (hbs n (by rw [e]; rfl)).2.1
    | none =>
      have e3 : (s.st cx.glob x).h n = cx.glob n := blocksOf_none _ _ e
      rw [e3]
      cases hg : isGlob n with
      | false => rw [hcx n hg]; trivial
      | true =>
        have hgl := m.gl n hg
        have hr : assoc r.map n = none := by
          cases e4 : assoc r.map n with
          | none => rfl
          | some k => have := hn.blocks _ (assoc_mem e4); simp only [e] at this; cases this
        have hb := m.b n
        rw [show extφ φ r n = φ n by simp [extφ, hr], ← hgl.1]
        exact RelB.still (fun g hg => .inl hg) hgl.2 hb
  · obtain ⟨a, ha1, ha2, ha3⟩ := src n g hmn hgn
    obtain ⟨b, hb1, hb2, hb3⟩ := src k g hmk hgk
    by_cases e : a = b
    · subst e; exact hnk (actuals_one hn.d2 ha1 hb1)
    · exact m.apart a b g e ha2 hb2 ha3 hb3
  · obtain ⟨a, ha1, ha2, ha3⟩ := src n g hmn hg
    rcases hS with hS | ⟨k, hk1, hk2, hk3⟩
    · exact m.sep a g ha2 ha3 hS
    · have : k ≠ a := by rintro rfl; exact hn.frz _ hk2 (mem_actuals.2 ⟨n, ha1⟩)
      exact m.apart k a g this hk1 ha2 hk3 ha3
  · have hlt : g < cx.w0.heap.size := hlt
    rcases hS with hS | ⟨k, hk1, _, hk3⟩
    · exact m.inS g hS hlt
    · rcases mut_ok hk1 (m.b k) hk3 with h | h
      · omega
      · exact .inr h
  · rcases hS with hS | ⟨k, hk1, _, hk3⟩
    · exact m.lt g hS
    · exact m.blk_lt hk1 hk3
  · have hb : assoc s.blocks (gname g) = none := by
      cases e : assoc s.blocks (gname g) with
      | none => rfl
      | some k => have := hn.glob _ (by rw [e]; rfl); rw [this] at hgl; cases hgl
    have e3 : (s.st cx.glob x).h (gname g) = cx.glob (gname g) := blocksOf_none _ _ hb
    have hr : assoc r.map (gname g) = none := by
      cases e4 : assoc r.map (gname g) with
      | none => rfl
      | some k => have := hn.blocks _ (assoc_mem e4); simp only [hb] at this; cases this
    rw [show extφ φ r (gname g) = φ (gname g) by simp [extφ, hr]]
    exact m.glob g hgl (by rw [(m.gl _ hgl).1, ← e3]; exact hl)
  · have hb : assoc s.blocks n = none := by
      cases e : assoc s.blocks n with
      | none => rfl
      | some k => have := hn.glob n (by rw [e]; rfl); rw [this] at hg; cases hg
    have e3 : (s.st cx.glob x).h n = cx.glob n := blocksOf_none _ _ hb
    rw [e3]
    have := m.gl n hg
    exact ⟨rfl, by rw [← this.1]; exact this.2⟩

theorem own_some {s : Spec} {st : St} {x : s.V} (h : s.own st = some x) : ∃ r, s.ext st = some (x, r) ∧ selfOk r = true := by
  unfold Spec.own at h
  split at h
  · rename_i v r e
    split at h
    · rename_i q; injection h with h; subst h; exact ⟨r, e, q⟩
    · cases h
  · cases h

theorem own_sound {cx : Cx} (hcx : ∀ n, isGlob n = false → cx.glob n = .free) {φ : Nat → Value} {S : Nat → Prop} {w : World} {st : St} (m : RelH cx φ S st.h w) {tv : Nat → Value} (ht : ∀ i, RelV S w φ st.h (st.t i) (tv i))
    {s : Spec} {x : s.V} (h : s.own st = some x) : ∃ φ' S', RelH cx φ' S' (s.st cx.glob x).h w ∧ ∀ i, RelV S' w φ' (s.st cx.glob x).h ((s.st cx.glob x).t i) (tv i) := by
  obtain ⟨r, h1, h2⟩ := own_some h
  have hs := ext_sound hcx m ht h1 (extφ φ r) (fun _ _ _ => rfl)
  have hn := hs.2.2.1
  have hm := hs.2.2.2
  obtain ⟨a1, a2, _⟩ := ext_sound hcx m ht h1 cx.φ0 (fun n hk hl => by
    have hgl : ∀ n, assoc s.blocks n = none → (s.st cx.glob x).h n = cx.glob n := fun n hb => blocksOf_none _ _ hb
    cases e : assoc s.blocks n with
    | none =>
      rw [hgl n e] at hl
      have hr : assoc r.map n = none := by
        cases e4 : assoc r.map n with
        | none => rfl
        | some k => have := hn.blocks _ (assoc_mem e4); simp only [e] at this; cases this
      rw [show extφ φ r n = φ n by simp [extφ, hr]]
      cases hg : isGlob n with
      | false => rw [hcx n hg] at hl; cases hl
      | true => exact m.kp n hk (by rw [(m.gl n hg).1]; exact hl)
    | some k =>
      obtain ⟨m', hm1, hm2⟩ := hm n (by rw [e]; rfl)
      have hp : isParam n = true := by
        have : isGlob n = false := hn.glob n (by rw [e]; rfl)
        simpa [isKept, this] using hk
      have := (List.all_eq_true.1 h2) _ hm1
      simp only [hp, Bool.not_true, Bool.false_or] at this
      cases m' with
      | none => cases this
      | some q =>
        have := Nat.eq_of_beq_eq_true this
        subst this
        rw [show extφ φ r q = φ q by simp [extφ, assoc_of_mem hn.d1 hm1]]
        exact m.kp q hk (live_of_mut (hm2 q rfl)))
  exact ⟨_, _, a1, a2⟩
end Go.Proofs.YtkimeoknckohfaaDoor.R1
