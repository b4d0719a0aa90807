/- A region in any order: what its operations come to in the text's order they come to in any. -/
import Derived.Test.YtkimeoknckohfaaDoorR1Befores
import Derived.Test.YtkimeoknckohfaaDoorR1Frame4
namespace Go.Proofs.YtkimeoknckohfaaDoor.R1
variable {P : Program} {ρ : Type}

structure Reg (ops : List Oper) (bs : List (List Nat)) (tch : List (Nat × List Nat)) : Prop where
  good : Good ops bs
  back : Backw ops
  dist : distinctO (ops.map (·.dst)) = true
  small : ∀ (o : Oper), o ∈ ops → ∀ d, o.dst = some d → d < 10000
  touch : touchOk bs tch ops = true

def Wr (ops : List Oper) (tch : List (Nat × List Nat)) (i n : Nat) : Prop := ∃ o, ops[i]? = some o ∧ mayW tch o i n = true

theorem blindT_iff {bs : List (List Nat)} {i : Nat} : ∀ {l : List Oper} {j0 n : Nat}, blindT bs i l j0 n = true ↔ ∃ j o, l[j]? = some o ∧ o.dst = some n ∧ loose bs i (j0 + j) = true
  | [], j0, n => by simp [blindT]
  | o :: l, j0, n => by
    simp only [blindT, Bool.or_eq_true, blindT_iff (l := l)]
    constructor
    · rintro (h | ⟨j, p, h1, h2, h3⟩)
      · cases e : o.dst with
        | none => rw [e] at h; cases h
        | some d =>
          rw [e] at h
          simp only [Bool.and_eq_true] at h
          have := Nat.eq_of_beq_eq_true h.1; subst this
          exact ⟨0, o, by simp, e, by simpa using h.2⟩
      · exact ⟨j + 1, p, by simpa using h1, h2, by rw [show j0 + (j + 1) = j0 + 1 + j by omega]; exact h3⟩
    · rintro ⟨j, p, h1, h2, h3⟩
      cases j with
      | zero => simp at h1; subst h1; refine .inl ?_; rw [h2]; simp only [Nat.beq_refl, Bool.true_and]; simpa using h3
      | succ j => exact .inr ⟨j, p, by simpa using h1, h2, by rw [show j0 + 1 + j = j0 + (j + 1) by omega]; exact h3⟩

theorem blindH_iff {bs : List (List Nat)} {tch : List (Nat × List Nat)} {i : Nat} : ∀ {l : List Oper} {j0 n : Nat}, blindH bs tch i l j0 n = true ↔ ∃ j o, l[j]? = some o ∧ mayW tch o (j0 + j) n = true ∧ loose bs i (j0 + j) = true
  | [], j0, n => by simp [blindH]
  | o :: l, j0, n => by
    simp only [blindH, Bool.or_eq_true, blindH_iff (l := l), Bool.and_eq_true]
    constructor
    · rintro (h | ⟨j, p, h1, h2, h3⟩)
      · exact ⟨0, o, by simp, by simpa using h.1, by simpa using h.2⟩
      · exact ⟨j + 1, p, by simpa using h1, by rw [show j0 + (j + 1) = j0 + 1 + j by omega]; exact ⟨h2, h3⟩⟩
    · rintro ⟨j, p, h1, h2, h3⟩
      cases j with
      | zero => simp at h1; subst h1; exact .inl ⟨by simpa using h2, by simpa using h3⟩
      | succ j => exact .inr ⟨j, p, by simpa using h1, by rw [show j0 + 1 + j = j0 + (j + 1) by omega]; exact ⟨h2, h3⟩⟩

theorem loose_iff {bs : List (List Nat)} {i j : Nat} : loose bs i j = true ↔ i ≠ j ∧ j ∉ befOf bs i ∧ i ∉ befOf bs j := by
  unfold loose
  simp only [Bool.and_eq_true, Bool.not_eq_true']
  constructor
  · rintro ⟨⟨h1, h2⟩, h3⟩
    refine ⟨?_, ?_, ?_⟩
    · rintro rfl; rw [Nat.beq_refl] at h1; cases h1
    · intro h; rw [any_beq.2 h] at h2; cases h2
    · intro h; rw [any_beq.2 h] at h3; cases h3
  · rintro ⟨h1, h2, h3⟩
    refine ⟨⟨?_, ?_⟩, ?_⟩
    · cases e : Nat.beq i j with
      | true => exact absurd (Nat.eq_of_beq_eq_true e) h1
      | false => rfl
    · cases e : (befOf bs i).any (Nat.beq j) with
      | true => exact absurd (any_beq.1 e) h2
      | false => rfl
    · cases e : (befOf bs j).any (Nat.beq i) with
      | true => exact absurd (any_beq.1 e) h3
      | false => rfl

theorem loose_symm {bs : List (List Nat)} {i j : Nat} (h : loose bs i j = true) : loose bs j i = true := by
  obtain ⟨h1, h2, h3⟩ := loose_iff.1 h
  exact loose_iff.2 ⟨Ne.symm h1, h3, h2⟩

theorem dstAt_some {ops : List Oper} {j n : Nat} : dstAt ops j = some n ↔ ∃ o, ops[j]? = some o ∧ o.dst = some n := by
  unfold dstAt
  cases e : ops[j]? with
  | none => simp
  | some o => simp

theorem declared_iff {tch : List (Nat × List Nat)} {i n : Nat} : declared tch i n = true ↔ ∃ ns, (i, ns) ∈ tch ∧ n ∈ ns := by
  unfold declared
  rw [List.any_eq_true]
  constructor
  · rintro ⟨⟨j, ns⟩, h1, h2⟩
    simp only [Bool.and_eq_true] at h2
    have := Nat.eq_of_beq_eq_true h2.1; subst this
    exact ⟨ns, h1, any_beq.1 h2.2⟩
  · rintro ⟨ns, h1, h2⟩
    exact ⟨(i, ns), h1, by simp only [Bool.and_eq_true]; exact ⟨Nat.beq_refl _, any_beq.2 h2⟩⟩

section
variable {ops : List Oper} {bs : List (List Nat)} {tch : List (Nat × List Nat)}

theorem touchOk_spec (R : Reg ops bs tch) {i n : Nat} (hd : declared tch i n = true) : isGlob n = false ∧ ∀ j, loose bs i j = true → ¬ Wr ops tch j n := by
  obtain ⟨ns, h1, h2⟩ := declared_iff.1 hd
  have h := R.touch
  unfold touchOk at h
  rw [List.all_eq_true] at h
  have h := h _ h1
  simp only [List.all_eq_true] at h
  have h := h n h2
  simp only [Bool.and_eq_true, Bool.not_eq_true', List.all_eq_true, List.mem_range, Bool.or_eq_true] at h
  refine ⟨h.1, fun j hl ⟨o, ho, hw⟩ => ?_⟩
  rcases h.2 j (List.getElem?_eq_some_iff.1 ho).1 with q | q
  · rw [hl] at q; cases q
  · rw [ho] at q; simp only [hw] at q; cases q

/-- What two operations in no order write is apart. -/
theorem apartW (R : Reg ops bs tch) {i j n : Nat} (hl : loose bs i j = true) (hi : Wr ops tch i n) (hj : Wr ops tch j n) : False := by
  obtain ⟨o, ho, h1⟩ := hi
  obtain ⟨p, hp, h2⟩ := hj
  unfold mayW at h1 h2
  simp only [Bool.or_eq_true, Bool.and_eq_true] at h1 h2
  rcases h1 with ⟨d1, h1⟩ | h1
  · rcases h2 with ⟨d2, h2⟩ | h2
    · obtain ⟨d, hd⟩ := Option.isSome_iff_exists.1 d1
      obtain ⟨e, he⟩ := Option.isSome_iff_exists.1 d2
      exact (loose_iff.1 hl).1 (owns_inj R.dist ho hp hd he (R.small o (List.mem_of_getElem? ho) d hd) (R.small p (List.mem_of_getElem? hp) e he) h1 h2)
    · exact (touchOk_spec R h2).2 i (loose_symm hl) ⟨o, ho, by unfold mayW; simp [d1, h1]⟩
  · exact (touchOk_spec R h1).2 j hl ⟨p, hp, by unfold mayW; simp only [Bool.or_eq_true, Bool.and_eq_true]; exact h2⟩

theorem wr_glob (R : Reg ops bs tch) {i n : Nat} (h : Wr ops tch i n) : isGlob n = false := by
  obtain ⟨o, ho, h⟩ := h
  unfold mayW at h
  simp only [Bool.or_eq_true, Bool.and_eq_true] at h
  rcases h with ⟨d1, h⟩ | h
  · obtain ⟨d, hd⟩ := Option.isSome_iff_exists.1 d1
    exact kept_glob (owns_kept hd (R.small o (List.mem_of_getElem? ho) d hd) h)
  · exact (touchOk_spec R h).1

/-! ### The state behind some of the operations -/
variable (ops tch) in
open Classical in
noncomputable def hA (s : Nat → B) (ran : Nat → Bool) (hv : Nat → Nat → B) (X : Nat → Prop) (n : Nat) : Nat → B
  | 0 => s n
  | j + 1 => if X j ∧ ran j = true ∧ Wr ops tch j n then hv j n else hA s ran hv X n j

variable (ops) in
open Classical in
noncomputable def tX (s : Nat → V) (v : Nat → V) (X : Nat → Prop) (n : Nat) : V := if h : ∃ j, X j ∧ dstAt ops j = some n then v h.choose else s n

variable {s : St} {v v' : Nat → V} {hv hv' : Nat → Nat → B} {ran ran' : Nat → Bool}

open Classical in
theorem hA_succ {s0 : Nat → B} {X : Nat → Prop} {n j : Nat} : hA ops tch s0 ran hv X n (j + 1) = if X j ∧ ran j = true ∧ Wr ops tch j n then hv j n else hA ops tch s0 ran hv X n j := rfl

theorem tX_of (R : Reg ops bs tch) {X : Nat → Prop} {j n : Nat} (hj : X j) (hd : dstAt ops j = some n) : tX ops s.t v X n = v j := by
  have h : ∃ j, X j ∧ dstAt ops j = some n := ⟨j, hj, hd⟩
  unfold tX
  rw [dif_pos h, dst_inj R.dist h.choose_spec.2 hd]

theorem tX_not {X : Nat → Prop} {n : Nat} (h : ¬ ∃ j, X j ∧ dstAt ops j = some n) : tX ops s.t v X n = s.t n := by
  unfold tX; rw [dif_neg h]

theorem hA_congr {X Y : Nat → Prop} {n : Nat} : ∀ {m : Nat}, (∀ j, j < m → ((X j ∧ ran j = true ∧ Wr ops tch j n) ↔ (Y j ∧ ran' j = true ∧ Wr ops tch j n)) ∧ (Y j → Wr ops tch j n → hv j n = hv' j n)) → hA ops tch s.h ran hv X n m = hA ops tch s.h ran' hv' Y n m
  | 0, _ => rfl
  | m + 1, h => by
    have ih := hA_congr (m := m) fun j hj => h j (by omega)
    obtain ⟨h1, h2⟩ := h m (by omega)
    unfold hA
    by_cases q : X m ∧ ran m = true ∧ Wr ops tch m n
    · rw [if_pos q, if_pos (h1.1 q), h2 (h1.1 q).1 q.2.2]
    · rw [if_neg q, if_neg fun z => q (h1.2 z), ih]

theorem hA_more {X : Nat → Prop} {n i : Nat} : ∀ {m : Nat}, i ≤ m → (∀ j, i ≤ j → j < m → ¬ (X j ∧ ran j = true ∧ Wr ops tch j n)) → hA ops tch s.h ran hv X n m = hA ops tch s.h ran hv X n i
  | 0, hi, _ => by have : i = 0 := by omega
                   subst this; rfl
  | m + 1, hi, h => by
    by_cases e : i = m + 1
    · subst e; rfl
    · rw [← hA_more (m := m) (i := i) (by omega) fun j h1 h2 => h j h1 (by omega)]
      unfold hA
      rw [if_neg (h m (by omega) (by omega))]
      cases m <;> rfl

theorem hA_last {X : Nat → Prop} {n i m : Nat} (hi : i < m) (h : X i ∧ ran i = true ∧ Wr ops tch i n) (hno : ∀ j, i < j → j < m → ¬ (X j ∧ ran j = true ∧ Wr ops tch j n)) : hA ops tch s.h ran hv X n m = hv i n := by
  rw [hA_more (i := i + 1) (by omega) fun j h1 h2 => hno j (by omega) h2]
  unfold hA
  rw [if_pos h]

variable (ops tch s) in
/-- The state behind the operations of X. -/
noncomputable def stX (v : Nat → V) (ran : Nat → Bool) (hv : Nat → Nat → B) (X : Nat → Prop) (m : Nat) : St := ⟨tX ops s.t v X, fun n => hA ops tch s.h ran hv X n m⟩

variable (ops bs tch s) in
noncomputable def Rst (v : Nat → V) (ran : Nat → Bool) (hv : Nat → Nat → B) (i : Nat) : St := restr bs tch ops i (stX ops tch s v ran hv (fun j => j < i) i)

def Runs (bs : List (List Nat)) (ops : List Oper) (v : Nat → V) (i : Nat) (o : Oper) : Prop := o.guard = none ∨ ∃ g want dg, o.guard = some (g, want) ∧ dstAt ops g = some dg ∧ g ∈ befOf bs i ∧ v g = .v (.c (.bool want))
def Skips (bs : List (List Nat)) (ops : List Oper) (v : Nat → V) (i : Nat) (o : Oper) : Prop := ∃ g want dg, o.guard = some (g, want) ∧ dstAt ops g = some dg ∧ g ∈ befOf bs i ∧ (v g = .und ∨ ∃ b, v g = .v (.c (.bool b)) ∧ b ≠ want)

structure Fact (cfg : Cfg) (ops : List Oper) (bs : List (List Nat)) (tch : List (Nat × List Nat)) (s : St) (v : Nat → V) (ran : Nat → Bool) (hv : Nat → Nat → B) (i : Nat) (o : Oper) : Prop where
  op : ops[i]? = some o
  lt : ∀ d, o.dst = some d → d < cfg.n
  how : (ran i = true ∧ Runs bs ops v i o ∧ ∃ (l : List Entry) (r : St), (∀ e ∈ l, e ∈ cfg.fns) ∧ (l = [] ∨ ∃ e, l = [e]) ∧ evOp { cfg with fns := l } (Rst ops bs tch s v ran hv i) o (fun v s => some (v, s)) = some (v i, r) ∧
      (v i).isBad = false ∧ argsOk (Rst ops bs tch s v ran hv i) o = true ∧ (∀ n, ¬ Wr ops tch i n → r.h n = (Rst ops bs tch s v ran hv i).h n) ∧ ∀ n, Wr ops tch i n → hv i n = r.h n) ∨
    (ran i = false ∧ Skips bs ops v i o ∧ v i = .und)

theorem tX_congr (R : Reg ops bs tch) {X : Nat → Prop} (h : ∀ j, X j → v j = v' j) : tX ops s.t v X = tX ops s.t v' X := by
  funext n
  by_cases e : ∃ j, X j ∧ dstAt ops j = some n
  · obtain ⟨j, hj, hd⟩ := e
    rw [tX_of R hj hd, tX_of R hj hd, h j hj]
  · rw [tX_not e, tX_not e]

theorem stX_congr (R : Reg ops bs tch) {i : Nat} (h : ∀ j, j < i → v j = v' j ∧ ran j = ran' j ∧ hv j = hv' j) : stX ops tch s v ran hv (fun j => j < i) i = stX ops tch s v' ran' hv' (fun j => j < i) i := by
  unfold stX
  rw [tX_congr R fun j hj => (h j hj).1]
  congr 1
  funext n
  exact hA_congr fun j hj => ⟨by rw [(h j hj).2.1], fun _ _ => by rw [(h j hj).2.2]⟩

theorem Fact.congr {cfg : Cfg} (R : Reg ops bs tch) {i : Nat} {o : Oper} (h : ∀ j, j ≤ i → v j = v' j ∧ ran j = ran' j ∧ hv j = hv' j) (f : Fact cfg ops bs tch s v ran hv i o) : Fact cfg ops bs tch s v' ran' hv' i o := by
  have e1 : Rst ops bs tch s v ran hv i = Rst ops bs tch s v' ran' hv' i := by unfold Rst; rw [stX_congr R fun j hj => h j (by omega)]
  obtain ⟨h1, h2, h3⟩ := h i (Nat.le_refl _)
  refine ⟨f.op, f.lt, ?_⟩
  rcases f.how with ⟨a1, a2, l, r, a3, a4, a5, a6, a7, a8, a9⟩ | ⟨a1, a2, a3⟩
  · refine .inl ⟨by rw [← h2]; exact a1, ?_, l, r, a3, a4, by rw [← e1, ← h1]; exact a5, by rw [← h1]; exact a6, by rw [← e1]; exact a7, by rw [← e1]; exact a8, by rw [← h3]; exact a9⟩
    rcases a2 with a2 | ⟨g, want, dg, b1, b2, b3, b4⟩
    · exact .inl a2
    · exact .inr ⟨g, want, dg, b1, b2, b3, by rw [← (h g (Nat.le_of_lt (bef_lt R.good R.back _ _ b3))).1]; exact b4⟩
  · refine .inr ⟨by rw [← h2]; exact a1, ?_, by rw [← h1]; exact a3⟩
    obtain ⟨g, want, dg, b1, b2, b3, b4⟩ := a2
    exact ⟨g, want, dg, b1, b2, b3, by rw [← (h g (Nat.le_of_lt (bef_lt R.good R.back _ _ b3))).1]; exact b4⟩

/-- What an operation may see is the same in any order. -/
theorem rst_le (R : Reg ops bs tch) {X : Nat → Prop} {i : Nat} (hi : i < ops.length) (hni : ¬ X i) (hb : ∀ l ∈ befOf bs i, X l) (hc : ∀ j, X j → i ∉ befOf bs j) :
    Le (fun n => blindH bs tch i ops 0 n) (Rst ops bs tch s v ran hv i) (stX ops tch s v ran hv X ops.length) := by
  refine ⟨fun n => ?_, ⟨fun n hn => ?_, fun n hn => ?_⟩, fun n hg => ?_⟩
  · show (bif blindT bs i ops 0 n then V.bad else tX ops s.t v (fun j => j < i) n) = .bad ∨ tX ops s.t v X n = (bif blindT bs i ops 0 n then V.bad else tX ops s.t v (fun j => j < i) n)
    cases e : blindT bs i ops 0 n with
    | true => exact .inl rfl
    | false =>
      refine .inr ?_
      simp only [cond_false]
      have seen : ∀ j, dstAt ops j = some n → j ≠ i → j ∈ befOf bs i ∨ i ∈ befOf bs j := by
        intro j hd hne
        refine Classical.byContradiction fun hno => ?_
        obtain ⟨o, ho, hdo⟩ := dstAt_some.1 hd
        have : blindT bs i ops 0 n = true := blindT_iff.2 ⟨j, o, ho, hdo, by rw [Nat.zero_add]; exact loose_iff.2 ⟨Ne.symm hne, fun h => hno (.inl h), fun h => hno (.inr h)⟩⟩
        rw [e] at this; cases this
      by_cases q : ∃ j, j < i ∧ dstAt ops j = some n
      · obtain ⟨j, hj, hd⟩ := q
        rw [tX_of R (X := fun j => j < i) hj hd]
        rcases seen j hd (by omega) with h | h
        · exact tX_of R (hb j h) hd
        · have := bef_lt R.good R.back _ _ h; omega
      · rw [tX_not q, tX_not]
        rintro ⟨j, hj, hd⟩
        have hne : j ≠ i := fun e => hni (e ▸ hj)
        rcases seen j hd hne with h | h
        · exact q ⟨j, bef_lt R.good R.back _ _ h, hd⟩
        · exact hc j hj h
  · show hA ops tch s.h ran hv X n ops.length = (bif blindH bs tch i ops 0 n then B.gone else hA ops tch s.h ran hv (fun j => j < i) n i)
    rw [hn]
    simp only [cond_false]
    have seen : ∀ j, Wr ops tch j n → j ≠ i → j ∈ befOf bs i ∨ i ∈ befOf bs j := by
      rintro j ⟨o, ho, hw⟩ hne
      refine Classical.byContradiction fun hno => ?_
      have : blindH bs tch i ops 0 n = true := blindH_iff.2 ⟨j, o, ho, by rw [Nat.zero_add]; exact ⟨hw, loose_iff.2 ⟨Ne.symm hne, fun h => hno (.inl h), fun h => hno (.inr h)⟩⟩⟩
      rw [hn] at this; cases this
    rw [← hA_more (X := fun j => j < i) (m := ops.length) (i := i) (Nat.le_of_lt hi) fun j h1 _ h => by omega]
    refine hA_congr fun j hj => ⟨⟨fun ⟨h1, h2, h3⟩ => ⟨?_, h2, h3⟩, fun ⟨h1, h2, h3⟩ => ⟨?_, h2, h3⟩⟩, fun _ _ => rfl⟩
    · rcases seen j h3 (fun e => hni (e ▸ h1)) with h | h
      · exact bef_lt R.good R.back _ _ h
      · exact absurd h (hc j h1)
    · rcases seen j h3 (by omega) with h | h
      · exact hb j h
      · have := bef_lt R.good R.back _ _ h; omega
  · show (bif blindH bs tch i ops 0 n then B.gone else _) = _
    rw [hn]; rfl
  · show blindH bs tch i ops 0 n = false
    cases e : blindH bs tch i ops 0 n with
    | false => rfl
    | true =>
      obtain ⟨j, o, ho, hw, _⟩ := blindH_iff.1 e
      rw [Nat.zero_add] at hw
      rw [wr_glob R ⟨o, ho, hw⟩] at hg; cases hg

/-- One operation more. -/
theorem stX_run {cfg : Cfg} (hp : cfg.plain) (R : Reg ops bs tch) {X : Nat → Prop} {i : Nat} {o : Oper} (ho : ops[i]? = some o) (hni : ¬ X i) (hb : ∀ l ∈ befOf bs i, X l) (hc : ∀ j, X j → i ∉ befOf bs j) {l : List Entry} {r : St} (hl : l = [] ∨ ∃ e, l = [e]) (hr : ran i = true)
    (h : evOp { cfg with fns := l } (Rst ops bs tch s v ran hv i) o (fun v s => some (v, s)) = some (v i, r)) (hbad : (v i).isBad = false) (harg : argsOk (Rst ops bs tch s v ran hv i) o = true)
    (h1 : ∀ n, ¬ Wr ops tch i n → r.h n = (Rst ops bs tch s v ran hv i).h n) (h2 : ∀ n, Wr ops tch i n → hv i n = r.h n) :
    evOp { cfg with fns := l } (stX ops tch s v ran hv X ops.length) o (fun v s => some (v, s)) = some (v i, ⟨tX ops s.t v X, fun n => hA ops tch s.h ran hv (fun j => X j ∨ j = i) n ops.length⟩) := by
  have hi : i < ops.length := (List.getElem?_eq_some_iff.1 ho).1
  have le := rst_le (s := s) (v := v) (hv := hv) (ran := ran) R hi hni hb hc
  rw [evOp_frame (cfg := { cfg with fns := l }) ⟨hp.1, hp.2⟩ le hl harg h hbad]
  refine congrArg some (Prod.ext rfl ?_)
  simp only [St.mk.injEq]
  refine ⟨rfl, ?_⟩
  funext n
  show (bif blindH bs tch i ops 0 n then (stX ops tch s v ran hv X ops.length).h n else r.h n) = _
  by_cases hw : Wr ops tch i n
  · have hnb : blindH bs tch i ops 0 n = false := by
      cases e : blindH bs tch i ops 0 n with
      | false => rfl
      | true =>
        obtain ⟨j, p, hp, hpw, hlo⟩ := blindH_iff.1 e
        rw [Nat.zero_add] at hpw hlo
        exact (apartW R hlo hw ⟨p, hp, hpw⟩).elim
    rw [hnb]
    simp only [cond_false]
    rw [hA_last (i := i) hi ⟨.inr rfl, hr, hw⟩, ← h2 n hw]
    rintro j hj hjm ⟨hX, _, hjw⟩
    rcases hX with hX | rfl
    · refine hc j hX (Classical.byContradiction fun hno => ?_)
      exact apartW R (loose_iff.2 ⟨by omega, fun h => by have := bef_lt R.good R.back _ _ h; omega, hno⟩) hw hjw
    · omega
  · have same : hA ops tch s.h ran hv (fun j => X j ∨ j = i) n ops.length = hA ops tch s.h ran hv X n ops.length := by
      refine hA_congr fun j hj => ⟨⟨fun ⟨a, b, c⟩ => ⟨?_, b, c⟩, fun ⟨a, b, c⟩ => ⟨.inl a, b, c⟩⟩, fun _ _ => rfl⟩
      rcases a with a | rfl
      · exact a
      · exact absurd c hw
    rw [same]
    cases e : blindH bs tch i ops 0 n with
    | true => rfl
    | false =>
      simp only [cond_false]
      rw [h1 n hw]
      exact (le.h.out n e).symm

theorem tX_put (R : Reg ops bs tch) {X : Nat → Prop} {i : Nat} {o : Oper} (ho : ops[i]? = some o) : tX ops s.t v (fun j => X j ∨ j = i) = (match o.dst with | some d => upd (tX ops s.t v X) d (v i) | none => tX ops s.t v X) := by
  funext n
  cases hd : o.dst with
  | none =>
    simp only
    have key : (∃ j, (X j ∨ j = i) ∧ dstAt ops j = some n) ↔ ∃ j, X j ∧ dstAt ops j = some n := by
      constructor
      · rintro ⟨j, hj | rfl, h⟩
        · exact ⟨j, hj, h⟩
        · obtain ⟨p, hp, hpd⟩ := dstAt_some.1 h
          rw [ho] at hp; injection hp with hp; subst hp; rw [hd] at hpd; cases hpd
      · rintro ⟨j, hj, h⟩; exact ⟨j, .inl hj, h⟩
    by_cases q : ∃ j, X j ∧ dstAt ops j = some n
    · obtain ⟨j, hj, h⟩ := q
      rw [tX_of R hj h, tX_of R (X := fun j => X j ∨ j = i) (.inl hj) h]
    · rw [tX_not q, tX_not fun z => q (key.1 z)]
  | some d =>
    simp only
    have hdi : dstAt ops i = some d := dstAt_some.2 ⟨o, ho, hd⟩
    by_cases e : n = d
    · subst e
      rw [upd_same, tX_of R (X := fun j => X j ∨ j = i) (.inr rfl) hdi]
    · rw [upd_ne _ _ e]
      by_cases q : ∃ j, X j ∧ dstAt ops j = some n
      · obtain ⟨j, hj, h⟩ := q
        rw [tX_of R hj h, tX_of R (X := fun j => X j ∨ j = i) (.inl hj) h]
      · rw [tX_not q, tX_not]
        rintro ⟨j, hj | rfl, h⟩
        · exact q ⟨j, hj, h⟩
        · rw [hdi] at h; injection h with h; exact e h.symm

theorem hA_skip {X : Nat → Prop} {i n m : Nat} (hr : ran i = false) : hA ops tch s.h ran hv (fun j => X j ∨ j = i) n m = hA ops tch s.h ran hv X n m :=
  hA_congr fun j _ => ⟨⟨fun ⟨a, b, c⟩ => ⟨(by rcases a with a | rfl; exact a; rw [hr] at b; cases b), b, c⟩, fun ⟨a, b, c⟩ => ⟨.inl a, b, c⟩⟩, fun _ _ => rfl⟩
end

/-! ### Lists of what has come up -/
def cnt : List Bool → Nat
  | [] => 0
  | true :: l => cnt l
  | false :: l => cnt l + 1

theorem cnt_set : ∀ {l : List Bool} {i : Nat}, l[i]? = some false → cnt (l.set i true) + 1 = cnt l
  | [], i, h => by simp at h
  | b :: l, 0, h => by simp at h; subst h; rfl
  | b :: l, i + 1, h => by
    simp at h
    have := cnt_set h
    cases b <;> simp [cnt, this]

theorem cnt_pos {l : List Bool} {i : Nat} (h : l[i]? = some false) : 0 < cnt l := by have := cnt_set h; omega

theorem least {p : Nat → Prop} : ∀ n, p n → ∃ j, p j ∧ ∀ l, l < j → ¬ p l := by
  intro n
  induction n using Nat.strongRecOn with
  | _ n ih =>
    intro h
    by_cases hl : ∃ l, l < n ∧ p l
    · obtain ⟨l, h1, h2⟩ := hl; exact ih l h1 h2
    · exact ⟨n, h, fun l h1 h2 => hl ⟨l, h1, h2⟩⟩

section
variable {cfg : Cfg} {ops : Array Oper} {bs : List (List Nat)} {tch : List (Nat × List Nat)} {s : St} {v : Nat → V} {hv : Nat → Nat → B} {ran : Nat → Bool} {cx : Cx} {nt : Nat}

theorem edge_mem {o : Oper} {e : Edge} (he : e ∈ o.after) (hb : Region.binds .any e = true) : e.on ∈ edgesOf o := by
  unfold edgesOf
  exact List.mem_map.2 ⟨e, List.mem_filter.2 ⟨by simpa using he, hb⟩, rfl⟩

theorem mem_edge {o : Oper} {j : Nat} (h : j ∈ edgesOf o) : ∃ e ∈ o.after, Region.binds .any e = true ∧ e.on = j := by
  unfold edgesOf at h
  obtain ⟨e, he, rfl⟩ := List.mem_map.1 h
  obtain ⟨h1, h2⟩ := List.mem_filter.1 he
  exact ⟨e, by simpa using h1, h2, rfl⟩

theorem toList_get {j : Nat} : ops.toList[j]? = ops[j]? := Array.getElem?_toList

/-- The listed set is closed under edges. -/
def Closed (ops : Array Oper) (listed : Array Bool) : Prop := ∀ j o, listed.getD j false = true → ops.toList[j]? = some o → ∀ e ∈ edgesOf o, listed.getD e false = true

theorem ready_bef {listed : Array Bool} (g : Reg ops.toList bs tch) (hc : Closed ops listed) {i : Nat} (hi : i ∈ Region.ready .any ops listed) : (∃ o, ops.toList[i]? = some o) ∧ listed.getD i true = false ∧ ∀ l ∈ befOf bs i, listed.getD l false = true := by
  obtain ⟨h0, o, ho, hall⟩ := mem_ready.1 hi
  have ho' : ops.toList[i]? = some o := by rw [toList_get]; exact ho
  refine ⟨⟨o, ho'⟩, h0, fun l hl => ?_⟩
  obtain ⟨e, he, h⟩ := (g.good.mem i o ho' l).1 hl
  obtain ⟨e', he', hb, rfl⟩ := mem_edge he
  have h1 := hall e' he' hb
  rcases h with rfl | h
  · exact h1
  · exact bef_closed g.good g.back (X := fun j => listed.getD j false = true) (fun j o hj ho e he => hc j o hj ho e he) _ _ h1 h

theorem closed_set {listed : Array Bool} (g : Reg ops.toList bs tch) (hc : Closed ops listed) {i : Nat} (hi : i ∈ Region.ready .any ops listed) : Closed ops (listed.setIfInBounds i true) := by
  intro j o hj ho e he
  by_cases hji : j = i
  · subst hji
    exact getD_set_true ((ready_bef g hc hi).2.2 e (edge_bef g.good ho he))
  · rw [getD_set_ne false (Ne.symm hji)] at hj
    exact getD_set_true (hc j o hj ho e he)

theorem getD_false {listed : Array Bool} {i : Nat} (h : listed.getD i true = false) : listed.toList[i]? = some false := by
  cases e : listed[i]? with
  | none => simp [e] at h
  | some b => simp [e] at h; subst h; simpa using e

theorem unl_false {listed : Array Bool} {i : Nat} (h : listed.getD i true = false) : ¬ listed.getD i false = true := by
  cases e : listed[i]? with
  | none => simp [e] at h
  | some b => simp [e] at h; subst h; simp [e]

theorem getD_true_of_not {listed : Array Bool} {i : Nat} (hlt : i < listed.size) (h : ¬ listed.getD i false = true) : listed.getD i true = false := by
  simp [hlt] at h ⊢; exact h

theorem is_ready {listed : Array Bool} (g : Reg ops.toList bs tch) (hsz : listed.size = ops.size) {i : Nat} (hi : i < ops.size) (hn : ¬ listed.getD i false = true) (hb : ∀ l ∈ befOf bs i, listed.getD l false = true) : i ∈ Region.ready .any ops listed := by
  have ho : ops[i]? = some ops[i] := by simp [hi]
  refine mem_ready.2 ⟨getD_true_of_not (by rw [hsz]; exact hi) hn, ops[i], ho, fun e he hbd => hb _ (edge_bef g.good (by rw [toList_get]; exact ho) (edge_mem he hbd))⟩

/-- The state behind the operations that have come up. -/
noncomputable def stL (ops : Array Oper) (tch : List (Nat × List Nat)) (s : St) (v : Nat → V) (ran : Nat → Bool) (hv : Nat → Nat → B) (X : Nat → Prop) : St := stX ops.toList tch s v ran hv X ops.toList.length

theorem tab_few (T : Tab P cfg) {l : List Entry} (hl : ∀ e ∈ l, e ∈ cfg.fns) : Tab P { cfg with fns := l } := ⟨T.tt, fun e he => T.fns e (hl e he), T.glob⟩

theorem any_sound (hp : cfg.plain) (T : Tab P cfg) (hglob : cx.glob = cfg.glob) (hnt : cfg.n = nt) (R : Reg ops.toList bs tch) (F : ∀ i, i < ops.size → ∃ o, Fact cfg ops.toList bs tch s v ran hv i o) {Q : Exit → Act → World → Prop}
    (hQ : ∀ φ S a w, RelP cx nt φ S (stL ops tch s v ran hv fun j => j < ops.size) a w → Q .normal a w) :
    ∀ fuel listed φ S a w, listed.size = ops.size → Closed ops listed → cnt listed.toList ≤ fuel → RelP cx nt φ S (stL ops tch s v ran hv fun j => listed.getD j false = true) a w → wpAny P .any ops Q fuel listed a w := by
  have fin : ∀ (listed : Array Bool) φ S a w, listed.size = ops.size → Closed ops listed → Region.ready .any ops listed = [] → RelP cx nt φ S (stL ops tch s v ran hv fun j => listed.getD j false = true) a w → Q .normal a w := by
    intro listed φ S a w hsz hc hr m
    have hall : ∀ j, j < ops.size → listed.getD j false = true := by
      intro j hj
      refine Classical.byContradiction fun hn => ?_
      obtain ⟨i0, ⟨hi0, hn0⟩, hmin⟩ := least (p := fun j => j < ops.size ∧ ¬ listed.getD j false = true) j ⟨hj, hn⟩
      have : i0 ∈ Region.ready .any ops listed := is_ready R hsz hi0 hn0 fun l hlb => by
        have hlt := bef_lt R.good R.back _ _ hlb
        exact Classical.byContradiction fun h => hmin l hlt ⟨by omega, h⟩
      rw [hr] at this; cases this
    have e : (fun j => listed.getD j false = true) = fun j => j < ops.size := by
      funext j
      refine propext ⟨fun h => ?_, hall j⟩
      refine Classical.byContradiction fun hn => ?_
      have : listed[j]? = none := Array.getElem?_eq_none (by omega)
      simp [this] at h
    rw [e] at m
    exact hQ φ S a w m
  intro fuel
  induction fuel with
  | zero =>
    intro listed φ S a w hsz hc hf m
    have hr : Region.ready .any ops listed = [] := by
      cases e : Region.ready .any ops listed with
      | nil => rfl
      | cons j l =>
        have hj : j ∈ Region.ready .any ops listed := by rw [e]; simp
        have := cnt_pos (getD_false (ready_bef R hc hj).2.1)
        omega
    exact ⟨hr, fin listed φ S a w hsz hc hr m⟩
  | succ fuel ih =>
    intro listed φ S a w hsz hc hf m
    refine ⟨fun hr => fin listed φ S a w hsz hc hr m, fun i hi => ?_⟩
    obtain ⟨⟨o, ho⟩, hni, hbl⟩ := ready_bef R hc hi
    have hlt : i < ops.size := by have := (List.getElem?_eq_some_iff.1 ho).1; simpa using this
    have hni' := unl_false hni
    have hcX : ∀ j, listed.getD j false = true → i ∉ befOf bs j := fun j hj h => hni' (bef_closed R.good R.back (X := fun j => listed.getD j false = true) (fun j o hj ho e he => hc j o hj ho e he) j i hj h)
    obtain ⟨o', f⟩ := F i hlt
    have := f.op; rw [ho] at this; injection this with this; subst this
    have hX : (fun j => (listed.setIfInBounds i true).getD j false = true) = fun j => listed.getD j false = true ∨ j = i := by
      funext j
      by_cases e : j = i
      · subst e; simp [hsz, hlt]
      · rw [getD_set_ne false (Ne.symm e)]; simp [e]
    have next : ∀ φ S a w, RelP cx nt φ S (stL ops tch s v ran hv fun j => listed.getD j false = true ∨ j = i) a w → wpAny P .any ops Q fuel (listed.setIfInBounds i true) a w := by
      intro φ S a w m
      refine ih _ φ S a w (by simp [hsz]) (closed_set R hc hi) ?_ (by rw [hX]; exact m)
      have := cnt_set (getD_false hni)
      simp only [Array.toList_setIfInBounds]; omega
    -- the value's place
    have putm : ∀ {φ S w val}, RelP cx nt φ S ⟨tX ops.toList s.t v fun j => listed.getD j false = true, fun n => hA ops.toList tch s.h ran hv (fun j => listed.getD j false = true ∨ j = i) n ops.toList.length⟩ a w →
        RelV S w φ (fun n => hA ops.toList tch s.h ran hv (fun j => listed.getD j false = true ∨ j = i) n ops.toList.length) (v i) val → RelP cx nt φ S (stL ops tch s v ran hv fun j => listed.getD j false = true ∨ j = i) (a.put o.dst val) w := by
      intro φ S w val m hval
      unfold stL stX
      rw [tX_put R ho]
      cases hd : o.dst with
      | none => exact m
      | some d =>
        obtain ⟨st3, h3, m3⟩ := m.put (d := some d) hnt hval (κ := some) (r := ⟨upd (tX ops.toList s.t v fun j => listed.getD j false = true) d (v i), fun n => hA ops.toList tch s.h ran hv (fun j => listed.getD j false = true ∨ j = i) n ops.toList.length⟩) (by
          have hdn := f.lt d hd
          simp only [put]
          rw [show Nat.blt d cfg.n = true by rwa [Nat.blt_eq]])
        injection h3 with h3; subst h3
        exact m3
    -- the guard's value
    have gval : ∀ g dg, dstAt ops.toList g = some dg → g ∈ befOf bs i → (stL ops tch s v ran hv fun j => listed.getD j false = true).t dg = v g := fun g dg h1 h2 => tX_of R (X := fun j => listed.getD j false = true) (hbl g h2) h1
    have hoA : ops[i]? = some o := by rw [← toList_get]; exact ho
    unfold wpOp
    simp only [hoA]
    rcases f.how with ⟨a1, a2, l, r, a3, a4, a5, a6, a7, a8, a9⟩ | ⟨a1, a2, a3⟩
    · have hw : Region.wanted o (yielded ops a.tmps) = true := by
        rcases a2 with a2 | ⟨g, want, dg, b1, b2, b3, b4⟩
        · simp [Region.wanted, a2]
        · have hr := m.t dg
          rw [gval g dg b2 b3, b4] at hr
          rw [wanted_bool b1 (show (ops.toList[g]?).bind (·.dst) = some dg from b2) hr]; simp
      rw [if_pos hw]
      have hev := stX_run (cfg := cfg) hp R ho (X := fun j => listed.getD j false = true) hni' hbl hcX a4 a1 a5 a6 a7 a8 a9
      refine .inl (evOp_wp (tab_few T a3) hglob m o hev fun vv st2 φ' S' val w' h1 h2 h3 h4 h5 => ?_)
      obtain ⟨rfl, rfl⟩ := pair_eq h1
      exact next φ' S' _ w' (putm ((m.later h2 h3 h4)) h5)
    · have hw : Region.wanted o (yielded ops a.tmps) = false := by
        obtain ⟨g, want, dg, b1, b2, b3, b4⟩ := a2
        have hr := m.t dg
        rw [gval g dg b2 b3] at hr
        rcases b4 with b4 | ⟨b, b4, hb⟩
        · rw [b4] at hr
          exact wanted_und b1 (show (ops.toList[g]?).bind (·.dst) = some dg from b2) hr
        · rw [b4] at hr
          rw [wanted_bool b1 (show (ops.toList[g]?).bind (·.dst) = some dg from b2) hr]
          simpa using hb
      rw [if_neg (by rw [hw]; simp)]
      have e : (stL ops tch s v ran hv fun j => listed.getD j false = true) = ⟨tX ops.toList s.t v fun j => listed.getD j false = true, fun n => hA ops.toList tch s.h ran hv (fun j => listed.getD j false = true ∨ j = i) n ops.toList.length⟩ := by
        unfold stL stX
        congr 1
        funext n
        exact (hA_skip a1).symm
      rw [e] at m
      exact next φ S _ w (putm m (by rw [a3]; exact rfl))
end
end Go.Proofs.YtkimeoknckohfaaDoor.R1
