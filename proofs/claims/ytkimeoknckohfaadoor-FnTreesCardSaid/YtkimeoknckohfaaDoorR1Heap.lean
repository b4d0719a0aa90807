/- The memory's side: new blocks, stores, rows taken over, rows frozen. -/
import Derived.Test.YtkimeoknckohfaaDoorR1Basic
namespace Go.Proofs.YtkimeoknckohfaaDoor.R1

theorem ownsRow_of_block {w w' : World} {base e size : Nat} {v : Value} {n : Nat} {xs : List Value} (h : w.ownsRow base e size v n xs) (hk : ∀ g, Bk v g → w'.heap[g]? = w.heap[g]?) : w'.ownsRow base e size v n xs := by
  refine ⟨h.1, ?_⟩
  rcases h.2 with hn | ⟨g, cap, cur, rfl, hb, hg, rest⟩
  · exact .inl hn
  · exact .inr ⟨g, cap, cur, rfl, hb, by rw [hk g (bk_slice.2 rfl)]; exact hg, rest⟩

section
variable {S S' : Nat → Prop} {w w' : World} {φ φ' : Nat → Value} {h h' : Nat → B} {ok : Nat → Prop}

theorem RelB.mono (hS : ∀ g, S g → S' g) (hk : ∀ g, S g → w'.heap[g]? = w.heap[g]?) (hφ : ∀ n, (h n).live = true → (h' n).live = true ∧ pv (φ' n) = pv (φ n)) {b : B} {v : Value}
    (hb : b.mut = true → ∀ g, Bk v g → w'.heap[g]? = w.heap[g]?) (hr : RelB S w φ h ok v b) : RelB S' w' φ' h' ok v b := by
  cases b with
  | free => trivial
  | gone => trivial
  | row e u l =>
    obtain ⟨hn, flat, ho, hl, hok⟩ := hr
    exact ⟨hn, flat, ownsRow_of_block ho (hb rfl), hl.mono fun _ _ => Rep.mono hS hk, hok⟩
  | ro e u l =>
    obtain ⟨hn, flat, cap, hl, hc, hv⟩ := hr
    refine ⟨hn, flat, cap, hl.mono fun _ _ => Rep.mono hS hk, hc, ?_⟩
    rcases hv with hv | ⟨g, hv, hm, hs⟩
    · exact .inl hv
    · exact .inr ⟨g, hv, hm.kept fun hne => hk g (hs hne), fun hne => hS g (hs hne)⟩
  | box t cs =>
    obtain ⟨g, vals, rfl, hg, ha, hok⟩ := hr
    exact ⟨g, vals, rfl, by rw [hb rfl g (bk_pointer.2 rfl)]; exact hg, ha.mono fun _ _ => RelC.mono hS hk hφ, hok⟩
  | own t o l =>
    obtain ⟨s, F, h0, ho, hn, hok⟩ := hr
    have hF : ∀ g ∈ F, w'.heap[g]? = w.heap[g]? := fun g hg => hb rfl g (by unfold Bk; rw [h0.2]; exact hg)
    exact ⟨s, F, h0, ho.mono (fun x vs F hq h => RepO.mono hS hk hq h) hF, hn, hok⟩
  | opn t o l i cs =>
    obtain ⟨s, F, v1, v2, v3, F1, F3, rfl, hu, hi, ho, h1, h2, h2', h3, hF, hn, hok⟩ := hr
    have hF' : ∀ g ∈ F, w'.heap[g]? = w.heap[g]? := fun g hg => hb rfl g (by unfold Bk; rw [pf_ghost]; exact hg)
    refine ⟨s, F, v1, v2, v3, F1, F3, rfl, hu, hi, owns_same ho fun g hg => hF' g (by rw [hF]; exact List.mem_append.2 (.inl hg)), ?_, h2.mono fun _ _ => RelC.mono hS hk hφ, h2', ?_, hF, hn, hok⟩
    · exact h1.mono (fun x vs F hq h => RepO.mono hS hk hq h) fun g hg => hF' g (by rw [hF]; exact List.mem_append.2 (.inr (List.mem_append.2 (.inl hg))))
    · exact h3.mono (fun x vs F hq h => RepO.mono hS hk hq h) fun g hg => hF' g (by rw [hF]; exact List.mem_append.2 (.inr (List.mem_append.2 (.inr hg))))
  | glo q => obtain ⟨g, ob, h1, h2, h3, h4⟩ := hr; exact ⟨g, ob, h1, by rw [hk g h4]; exact h2, h3, hS g h4⟩
  | mp t ka va ku vu l =>
    obtain ⟨h1, h2, hr⟩ := hr
    refine ⟨h1, h2, ?_⟩
    rcases hr with ⟨rfl, h0⟩ | ⟨r, es, clock, rfl, hg, ha, hok⟩
    · exact .inl ⟨rfl, h0⟩
    · exact .inr ⟨r, es, clock, rfl, by rw [hb rfl r (bk_map.2 rfl)]; exact hg, ha.mono fun _ _ h => ⟨h.1.mono hS hk, h.2.mono hS hk⟩, hok⟩

theorem blk_eq_ownBlock {w : World} {base e size n : Nat} {v : Value} {xs : List Value} (h : w.ownsRow base e size v n xs) : blk v = v.ownBlock := by
  rcases h.2 with ⟨rfl, _⟩ | ⟨g, cap, cur, rfl, _⟩ <;> rfl
end

section
variable {S : Nat → Prop} {w : World} {φ : Nat → Value} {h : Nat → B} {ok : Nat → Prop} {v : Value}

theorem pv_row {e : Nat} {u : U} {l : List (El u)} (hb : RelB S w φ h ok v (.row e u l)) : pv v = v := by
  obtain ⟨_, flat, ho, _⟩ := hb
  rcases ho.2 with ⟨rfl, _⟩ | ⟨g, cap, cur, rfl, _⟩ <;> rfl

theorem pv_box {t : Nat} {cs : List C} (hb : RelB S w φ h ok v (.box t cs)) : pv v = v := by
  obtain ⟨g, vals, rfl, _⟩ := hb; rfl

theorem bk_owns {base e size n : Nat} {xs : List Value} (ho : w.ownsRow base e size v n xs) {g : Nat} : Bk v g ↔ blk v = some g := by
  rcases ho.2 with ⟨rfl, _⟩ | ⟨g', cap, cur, rfl, _⟩
  · exact ⟨fun h => (bk_nil h).elim, fun h => by cases h⟩
  · exact ⟨fun h => by rw [bk_slice.1 h]; rfl, fun h => .of_blk h⟩
end

theorem mut_ok {S : Nat → Prop} {w : World} {φ : Nat → Value} {h : Nat → B} {ok : Nat → Prop} {b : B} {v : Value} (hb : b.mut = true) (hr : RelB S w φ h ok v b) {g : Nat} (hg : Bk v g) : ok g := by
  cases b with
  | row e u l => obtain ⟨_, _, _, _, hok⟩ := hr; exact hok g hg
  | box t cs => obtain ⟨g', vals, h0, _, _, hok⟩ := hr; rw [h0] at hg; rw [bk_pointer.1 hg]; exact hok
  | own t o l => obtain ⟨s, F, h0, _, _, hok⟩ := hr; unfold Bk at hg; rw [h0.2] at hg; exact hok g hg
  | opn t o l i cs => obtain ⟨s, F, v1, v2, v3, F1, F3, h0, _, _, _, _, _, _, _, _, _, hok⟩ := hr; rw [h0] at hg; unfold Bk at hg; rw [pf_ghost] at hg; exact hok g hg
  | mp t ka va ku vu l =>
    obtain ⟨_, _, ⟨h0, _⟩ | ⟨r, es, clock, h0, _, _, hok⟩⟩ := hr
    · rw [h0] at hg; exact (bk_nil hg).elim
    · rw [h0] at hg; rw [bk_map.1 hg]; exact hok
  | _ => cases hb

def giveUp (h : Nat → B) : Option Nat → Nat → B
  | some n => upd h n .gone
  | none => h

theorem upd_live {h : Nat → B} {n : Nat} {b : B} (hb : b.live = true) : ∀ k, (h k).live = true → (upd h n b k).live = true := by
  intro k hk
  by_cases e : k = n
  · subst e; rw [upd_same]; exact hb
  · rw [upd_ne _ _ e]; exact hk

/-- The frame: nothing that was there has turned but what is the call's. -/
theorem Keeps.step {cx : Cx} {w w' : World} (k : Keeps cx w) (ho : w'.os = w.os) (ht : w'.tape = w.tape) (hu : w'.output = w.output) (hs : w.heap.size ≤ w'.heap.size)
    (hb : ∀ g, g < w.heap.size → ¬ cx.ok g → w'.heap[g]? = w.heap[g]?) : Keeps cx w' :=
  ⟨ho.trans k.os, ht.trans k.tape, hu.trans k.output, Nat.le_trans k.size hs, fun g hg hn =>
    (hb g (Nat.lt_of_lt_of_le hg k.size) (fun h => h.elim (fun h => absurd hg (Nat.not_lt.2 h)) hn)).trans (k.block g hg hn)⟩

section
variable {cx : Cx} {φ : Nat → Value} {S : Nat → Prop} {h : Nat → B} {w : World}

/-- A world that differs in new blocks and in the block of one name that may be written; that name's block is told anew, under this name or another. -/
theorem RelH.change (m : RelH cx φ S h w) {w' : World} (ho : w'.os = w.os) (ht : w'.tape = w.tape) (hu : w'.output = w.output) (hs : w.heap.size ≤ w'.heap.size)
    (old : Option Nat)   -- the name whose block is written, and given up
    (hold : ∀ n, old = some n → (h n).mut = true)
    (hb : ∀ g, g < w.heap.size → (∀ n, old = some n → ¬ Bk (φ n) g) → w'.heap[g]? = w.heap[g]?)
    (dst : Nat) (b : B) (v : Value) (hbl : b.live = true)
    (hfree : old = some dst ∧ pv v = pv (φ dst) ∨ (h dst).live = false ∧ isKept dst = false)
    (hv : ∀ g, Bk v g → (∃ n, old = some n ∧ Bk (φ n) g) ∨ w.heap.size ≤ g)
    (hrel : ∀ (h' : Nat → B), h' = upd (giveUp h old) dst b → RelB S w' (upd φ dst v) h' cx.ok v b) :
    RelH cx (upd φ dst v) S (upd (giveUp h old) dst b) w' := by
  have hrel := hrel _ rfl
  generalize hh : giveUp h old = h1 at hrel ⊢
  have h1live : ∀ n, (h1 n).live = (h n).live := by
    intro n
    subst hh
    cases old with
    | none => rfl
    | some n0 =>
      by_cases e : n = n0
      · subst e; simp only [giveUp, upd_same]; rw [live_of_mut (hold n rfl)]; rfl
      · simp only [giveUp, upd_ne _ _ e]
  have h1mut : ∀ n, (h1 n).mut = true → (h n).mut = true ∧ old ≠ some n := by
    intro n hn
    subst hh
    cases old with
    | none => exact ⟨hn, by simp⟩
    | some n0 =>
      by_cases e : n = n0
      · subst e; simp only [giveUp, upd_same] at hn; cases hn
      · simp only [giveUp, upd_ne _ _ e] at hn; exact ⟨hn, fun h => e (Option.some.inj h).symm⟩
  have hφ : ∀ n, (h n).live = true → (upd h1 dst b n).live = true ∧ pv (upd φ dst v n) = pv (φ n) := by
    intro n hn
    refine ⟨upd_live hbl n (by rw [h1live]; exact hn), ?_⟩
    by_cases e : n = dst
    · subst e
      rcases hfree with ⟨_, hv⟩ | ⟨hf, _⟩
      · rw [upd_same, hv]
      · rw [hf] at hn; cases hn
    · rw [upd_ne _ _ e]
  have hkS : ∀ g, S g → w'.heap[g]? = w.heap[g]? := fun g hg => hb g (m.lt g hg) fun n hn hbl => m.sep n g (hold n hn) hbl hg
  have other : ∀ n g, n ≠ dst → (h1 n).mut = true → Bk (φ n) g → w'.heap[g]? = w.heap[g]? := by
    intro n g hne hm hbk
    obtain ⟨hm', hno⟩ := h1mut n hm
    refine hb g (m.blk_lt hm' hbk) fun n0 hn0 hb0 => ?_
    exact m.apart n n0 g (fun e => hno (by rw [hn0, e])) hm' (hold n0 hn0) hbk hb0
  constructor
  · intro n
    by_cases e : n = dst
    · subst e; rw [upd_same, upd_same]; exact hrel
    · rw [upd_ne _ _ e, upd_ne _ _ e]
      have hb0 : RelB S w φ h cx.ok (φ n) (h1 n) := by
        subst hh
        cases old with
        | none => exact m.b n
        | some n0 =>
          by_cases e2 : n = n0
          · subst e2; simp only [giveUp, upd_same]; trivial
          · simp only [giveUp, upd_ne _ _ e2]; exact m.b n
      exact RelB.mono (fun _ h => h) hkS hφ (fun hm g hg => other n g e hm hg) hb0
  · intro n k g hnk hn hk hbn hbk
    by_cases e : n = dst
    · subst e
      rw [upd_same] at hbn
      have e' : k ≠ n := fun e => hnk e.symm
      rw [upd_ne _ _ e'] at hk hbk
      obtain ⟨hk', hko⟩ := h1mut k hk
      rcases hv g hbn with ⟨n0, hn0, hb0⟩ | hge
      · exact m.apart k n0 g (fun e => hko (by rw [hn0, e])) hk' (hold n0 hn0) hbk hb0
      · have := m.blk_lt hk' hbk; omega
    · rw [upd_ne _ _ e] at hn hbn
      by_cases e2 : k = dst
      · subst e2
        rw [upd_same] at hbk
        obtain ⟨hn', hno⟩ := h1mut n hn
        rcases hv g hbk with ⟨n0, hn0, hb0⟩ | hge
        · exact m.apart n n0 g (fun e => hno (by rw [hn0, e])) hn' (hold n0 hn0) hbn hb0
        · have := m.blk_lt hn' hbn; omega
      · rw [upd_ne _ _ e2] at hk hbk
        exact m.apart n k g hnk (h1mut n hn).1 (h1mut k hk).1 hbn hbk
  · intro n g hn hbn hg
    by_cases e : n = dst
    · subst e
      rw [upd_same] at hbn
      rcases hv g hbn with ⟨n0, hn0, hb0⟩ | hge
      · exact m.sep n0 g (hold n0 hn0) hb0 hg
      · have := m.lt g hg; omega
    · rw [upd_ne _ _ e] at hn hbn
      exact m.sep n g (h1mut n hn).1 hbn hg
  · exact m.inS
  · exact fun g hg => Nat.lt_of_lt_of_le (m.lt g hg) hs
  · intro g hgl hg
    by_cases e : gname g = dst
    · rw [← e, upd_same]
      rcases hfree with ⟨ho, hv'⟩ | ⟨hf, hgl'⟩
      · rw [hv', ← e]; exact m.glob g hgl (by rw [e]; exact live_of_mut (hold dst ho))
      · rw [e, kept_glob hgl'] at hgl; cases hgl
    · rw [upd_ne _ _ e]
      rw [upd_ne _ _ e, h1live] at hg
      exact m.glob g hgl hg
  · intro n hgl
    obtain ⟨hg1, hg2⟩ := m.gl n hgl
    have hnd : n ≠ dst := by
      rintro rfl
      rcases hfree with ⟨ho, _⟩ | ⟨_, hf⟩
      · rw [hold n ho] at hg2; cases hg2
      · rw [kept_glob hf] at hgl; cases hgl
    rw [upd_ne _ _ hnd]
    have : h1 n = h n := by
      subst hh
      cases old with
      | none => rfl
      | some n0 =>
        have : n ≠ n0 := by rintro rfl; rw [hold n rfl] at hg2; cases hg2
        simp only [giveUp, upd_ne _ _ this]
    rw [this]; exact ⟨hg1, hg2⟩
  · intro n hk hl
    by_cases e : n = dst
    · subst e
      rw [upd_same]
      rcases hfree with ⟨ho, hv'⟩ | ⟨_, hf⟩
      · rw [hv']; exact m.kp n hk (live_of_mut (hold n ho))
      · rw [hf] at hk; cases hk
    · rw [upd_ne _ _ e] at hl ⊢
      rw [h1live] at hl
      exact m.kp n hk hl
  · refine m.keep.step ho ht hu hs fun g hg hno => hb g hg fun n hn hbn => hno ?_
    exact mut_ok (hold n hn) (m.b n) hbn

theorem upd_upd {α : Type} (f : Nat → α) (i : Nat) (x y : α) : upd (upd f i x) i y = upd f i y := by
  funext j
  by_cases e : j = i
  · subst e; rw [upd_same, upd_same]
  · rw [upd_ne _ _ e, upd_ne _ _ e, upd_ne _ _ e]

theorem upd_self {α : Type} (f : Nat → α) (i : Nat) : upd f i (f i) = f := by
  funext j
  by_cases e : j = i
  · subst e; rw [upd_same]
  · rw [upd_ne _ _ e]

theorem freeze_live (b : B) : b.freeze.live = b.live := by cases b <;> rfl
theorem freeze_mut {b : B} (h : b.freeze.mut = true) : b.mut = true := by cases b <;> first | exact h | cases h
theorem freeze_not {b : B} : b.freeze.mut = false := by cases b <;> rfl
theorem mut_row {b : B} (h : b.isRow = true) : b.mut = true := by cases b <;> first | rfl | cases h

/-- A block frozen: what its content is then. -/
theorem freeze_rel {ok : Nat → Prop} {b : B} {v : Value} {h' : Nat → B} (hm : b.mut = true) (hb : RelB S w φ h ok v b) : RelB (fun g => S g ∨ b.mut = true ∧ Bk v g) w φ h' ok v b.freeze := by
  cases b with
  | box t cs => trivial
  | opn t o l i cs => trivial
  | row ee u l =>
    have hpv := pv_row hb
    obtain ⟨hn, flat, ho, hl, hok⟩ := hb
    have hl' : RepL (Rep (fun g => S g ∨ (B.row ee u l).mut = true ∧ Bk v g) w u) l flat := hl.mono fun _ _ => Rep.mono (fun g h => .inl h) (fun _ _ => rfl)
    rcases ho.2 with ⟨h0, hz⟩ | ⟨g, cap, cur, h0, _, hg, hc, _, _, ht⟩
    · exact ⟨hn, flat, l.length, hl', Nat.le_refl _, .inl ⟨by rw [hpv]; exact h0, List.eq_nil_of_length_eq_zero hz⟩⟩
    · refine ⟨hn, flat, cap, hl', hc, .inr ⟨g, by rw [hpv]; exact h0, ?_, fun _ => .inr ⟨rfl, by rw [h0]; exact bk_slice.2 rfl⟩⟩⟩
      rw [h0] at ho
      exact ho.cells rfl
  | own t o l =>
    obtain ⟨s, F, h0, ho, _, _⟩ := hb
    have hF : ∀ g ∈ F, S g ∨ (B.own t o l).mut = true ∧ Bk v g := fun g hg => .inr ⟨rfl, by unfold Bk; rw [h0.2]; exact hg⟩
    have hrep := ho.rep (S' := fun g => S g ∨ (B.own t o l).mut = true ∧ Bk v g) (fun x vs F hq h => h.rep (fun _ h => .inl h) hq) hF
    obtain ⟨flat, F', hn, how, _, _⟩ := ho
    obtain ⟨A, cap, cs, e1, hc, hl, hA⟩ := hrep
    injection e1 with e1 _
    refine ⟨hn, cs, cap, hl, hc, ?_⟩
    rw [h0.1]
    cases A with
    | none => obtain ⟨h1, h2⟩ := hA; exact .inl ⟨by rw [e1, h1, h2]; rfl, h1⟩
    | some a =>
      rcases how.2 with ⟨h0, _⟩ | ⟨g, cap', cur, h0, _⟩
      · rw [h0] at e1; cases e1
      · rw [h0] at e1
        injection e1 with e2 e3 e4
        injection e2 with e2
        subst e2; subst e4
        exact .inr ⟨g, by rw [h0], hA.1, hA.2⟩
  | mp t ka va ku vu l => trivial
  | _ => cases hm

theorem RelH.freeze1 (m : RelH cx φ S h w) (n : Nat) : RelH cx φ (fun g => S g ∨ (h n).mut = true ∧ Bk (φ n) g) (upd h n (h n).freeze) w := by
  cases hmut : (h n).mut with
  | true =>
    have hbn := m.b n
    have hlv : (h n).freeze.live = true := by rw [freeze_live]; exact live_of_mut hmut
    have hφ : ∀ k, (h k).live = true → (upd h n (h n).freeze k).live = true ∧ pv (φ k) = pv (φ k) := fun k hk => ⟨upd_live hlv k hk, rfl⟩
    have hm : ∀ k, (upd h n (h n).freeze k).mut = true → k ≠ n ∧ (h k).mut = true := by
      intro k hk
      by_cases e2 : k = n
      · subst e2; rw [upd_same, freeze_not] at hk; cases hk
      · rw [upd_ne _ _ e2] at hk; exact ⟨e2, hk⟩
    constructor
    · intro k
      by_cases e2 : k = n
      · subst e2
        rw [upd_same]
        have := freeze_rel (h' := upd h k (h k).freeze) hmut hbn
        rw [hmut] at this; exact this
      · rw [upd_ne _ _ e2]
        exact RelB.mono (fun g h => .inl h) (fun _ _ => rfl) hφ (fun _ _ _ => rfl) (m.b k)
    · intro k j g hkj hk hj hbk
      exact m.apart k j g hkj (hm k hk).2 (hm j hj).2 hbk
    · intro k g hk hbk hS
      obtain ⟨hkn, hk⟩ := hm k hk
      rcases hS with hS | ⟨_, hS⟩
      · exact m.sep k g hk hbk hS
      · exact m.apart k n g hkn hk hmut hbk hS
    · rintro g (hS | ⟨_, hS⟩) hlt
      · exact m.inS g hS hlt
      · rcases mut_ok hmut hbn hS with h | h
        · omega
        · exact .inr h
    · rintro g (hS | ⟨_, hS⟩)
      · exact m.lt g hS
      · exact m.blk_lt hmut hS
    · intro g hgl hg
      refine m.glob g hgl ?_
      by_cases e2 : gname g = n
      · rw [e2]; exact live_of_mut hmut
      · rw [upd_ne _ _ e2] at hg; exact hg
    · intro k hgl
      have hg := m.gl k hgl
      have : k ≠ n := by rintro rfl; rw [hmut] at hg; exact absurd hg.2 (by simp)
      rw [upd_ne _ _ this]; exact hg
    · intro k hk hl
      refine m.kp k hk ?_
      by_cases e2 : k = n
      · subst e2; exact live_of_mut hmut
      · rw [upd_ne _ _ e2] at hl; exact hl
    · exact m.keep
  | false =>
    have he : (fun g => S g ∨ false = true ∧ Bk (φ n) g) = S := by funext g; simp
    have hu : upd h n (h n).freeze = h := by
      have : (h n).freeze = h n := by cases e : h n <;> rw [e] at hmut <;> first | rfl | cases hmut
      rw [this]; exact upd_self h n
    rw [he, hu]
    exact m

theorem freezeAll_live (ns : List Nat) : ∀ (h : Nat → B) (k : Nat), (freezeAll h ns k).live = (h k).live := by
  induction ns with
  | nil => intro h k; rfl
  | cons n r ih =>
    intro h k
    rw [freezeAll, ih]
    by_cases e : k = n
    · subst e; rw [upd_same, freeze_live]
    · rw [upd_ne _ _ e]

theorem freezeAll_mut (ns : List Nat) : ∀ (h : Nat → B) (k : Nat), (freezeAll h ns k).mut = true → (h k).mut = true := by
  induction ns with
  | nil => intro h k hk; exact hk
  | cons n r ih =>
    intro h k hk
    rw [freezeAll] at hk
    have := ih _ _ hk
    by_cases e : k = n
    · subst e; rw [upd_same] at this; exact freeze_mut this
    · rwa [upd_ne _ _ e] at this

theorem RelH.freezeAll (ns : List Nat) : ∀ {S : Nat → Prop} {h : Nat → B}, RelH cx φ S h w → ∃ S', (∀ g, S g → S' g) ∧ RelH cx φ S' (freezeAll h ns) w ∧ ∀ n ∈ ns, (h n).mut = true → ∀ g, Bk (φ n) g → S' g := by
  induction ns with
  | nil => intro S h m; exact ⟨S, fun _ h => h, m, by simp⟩
  | cons n r ih =>
    intro S h m
    obtain ⟨S', hS, m', hr⟩ := ih (m.freeze1 n)
    refine ⟨S', fun g hg => hS g (.inl hg), m', fun k hk hrow g hg => ?_⟩
    by_cases e : k = n
    · subst e; exact hS g (.inr ⟨hrow, hg⟩)
    · rcases List.mem_cons.1 hk with h1 | h1
      · exact absurd h1 e
      · exact hr k h1 (by rw [upd_ne _ _ e]; exact hrow) g hg
end
end Go.Proofs.YtkimeoknckohfaaDoor.R1
