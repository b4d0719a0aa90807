/- New blocks: variables in memory, rows; appends. -/
import Derived.Test.YtcijmfodhdigpaaR1Ops
namespace Go.Proofs.Ytcijmfodhdigpaa.R1
variable {P : Program} {ρ : Type}

theorem newBlock_some {st : St} {n : Nat} {b : B} {κ : St → Option ρ} {r : ρ} (h : newBlock st n b κ = some r) : st.h n = .free ∧ isKept n = false ∧ κ { st with h := upd st.h n b } = some r := by
  unfold newBlock at h
  split at h
  · rename_i e1 e2; exact ⟨e1, e2, h⟩
  · cases h

theorem newRow_some {st : St} {n e : Nat} {u : U} {l : List (El u)} {κ : St → Option ρ} {r : ρ} (h : newRow st n e u l κ = some r) :
    0 < u.n ∧ st.h n = .free ∧ isKept n = false ∧ κ { st with h := upd st.h n (.row e u l) } = some r := by
  unfold newRow at h
  split at h
  · rename_i e1; exact ⟨by simpa [Nat.blt_eq] using e1, newBlock_some h⟩
  · cases h

section
variable {cx : Cx} {φ : Nat → Value} {S : Nat → Prop} {h : Nat → B} {w : World}

theorem RelH.newBox (m : RelH cx φ S h w) {dst : Nat} (hf : h dst = .free) (hgl : isKept dst = false) {t : TypeId} {cs : List C} {vals : Array Value} (ha : All2 (RelC S w φ h) cs vals.toList) :
    RelH cx (upd φ dst (.pointer (some ⟨w.heap.size, 0, none⟩))) S (upd h dst (.box t cs)) (w.alloc (.cells vals t)) ∧
      Later S S w (w.alloc (.cells vals t)) φ (upd φ dst (.pointer (some ⟨w.heap.size, 0, none⟩))) h (upd h dst (.box t cs)) := by
  have hfree : (none : Option Nat) = some dst ∧ (Value.pointer (some ⟨w.heap.size, 0, none⟩)) = φ dst ∨ (h dst).live = false ∧ isKept dst = false := .inr ⟨by rw [hf]; rfl, hgl⟩
  have hkeep : ∀ g, g < w.heap.size → (∀ n, (none : Option Nat) = some n → blk (φ n) ≠ some g) → (w.alloc (.cells vals t)).heap[g]? = w.heap[g]? := fun g hg _ => heap_alloc_old w _ g hg
  have hlat := Later.of_change m none (by simp) hkeep dst (.box t cs) (.pointer (some ⟨w.heap.size, 0, none⟩)) rfl hfree
  refine ⟨?_, hlat⟩
  refine m.change (w' := w.alloc (.cells vals t)) rfl rfl rfl (by simp) none (by simp) hkeep dst (.box t cs) (.pointer (some ⟨w.heap.size, 0, none⟩)) rfl hfree (fun g hg => ?_) (fun h' hh => ?_)
  · injection hg with hg; exact .inr (Nat.le_of_eq hg)
  · subst hh
    exact ⟨w.heap.size, vals, rfl, heap_alloc_new w _, ha.mono fun c x hc => hlat.relC hc, .inl m.keep.size⟩

/-- A row that is made, or grown out of another one. -/
theorem RelH.newRow (m : RelH cx φ S h w) (old : Option Nat) (hold : ∀ n, old = some n → (h n).isRow = true) {dst : Nat} (hf : giveUp h old dst = .free) (hgl : isKept dst = false)
    {w' : World} (hg : w.grownBy w' (match old with | some n => blk (φ n) | none => none)) {v : Value} {e : Nat} {u : U} {l : List (El u)} {flat : List Value} (hu : 0 < u.n)
    (ho : w'.ownsRow 0 e u.n v l.length flat) (hl : RepL (Rep S w u) l flat) (hv : ∀ g, blk v = some g → (∃ n, old = some n ∧ blk (φ n) = some g) ∨ w.heap.size ≤ g) :
    RelH cx (upd φ dst v) S (upd (giveUp h old) dst (.row e u l)) w' ∧ Later S S w w' φ (upd φ dst v) h (upd (giveUp h old) dst (.row e u l)) := by
  have hmut : ∀ n, old = some n → (h n).mut = true := fun n hn => by have := hold n hn; cases e : h n <;> rw [e] at this <;> first | rfl | cases this
  have hdl : (h dst).live = false := by
    cases old with
    | none => rw [show h dst = .free from hf]; rfl
    | some n =>
      by_cases e : dst = n
      · subst e; simp only [giveUp, upd_same] at hf; cases hf
      · simp only [giveUp, upd_ne _ _ e] at hf; rw [hf]; rfl
  have hfree : old = some dst ∧ v = φ dst ∨ (h dst).live = false ∧ isKept dst = false := .inr ⟨hdl, hgl⟩
  have hkeep : ∀ g, g < w.heap.size → (∀ n, old = some n → blk (φ n) ≠ some g) → w'.heap[g]? = w.heap[g]? := fun g hlt hne => hg.block g hlt (by
    cases old with
    | none => simp
    | some n => exact fun e => hne n rfl e.symm)
  have hlat := Later.of_change m (w' := w') old hmut hkeep dst (.row e u l) v rfl hfree
  refine ⟨?_, hlat⟩
  refine m.change hg.os hg.tape hg.output hg.size old hmut hkeep dst (.row e u l) v rfl hfree hv (fun h' hh => ?_)
  subst hh
  refine ⟨hu, flat, ho, hl.mono fun _ _ hr => Rep.mono hlat.s hlat.k hr, fun g hbg => ?_⟩
  rcases hv g hbg with ⟨n, hn, hbn⟩ | hge
  · have hb := m.b n
    have hr := hold n hn
    cases e : h n with
    | row ee uu ll => rw [e] at hb; obtain ⟨_, _, _, _, hok⟩ := hb; exact hok g hbn
    | _ => rw [e] at hr; cases hr
  · exact .inl (Nat.le_trans m.keep.size hge)
end

/-- What a data slice's value is, where it is a source. -/
def Src (S : Nat → Prop) (w : World) (u : U) (l : List (El u)) (v : Value) : Prop :=
  ∃ flat, RepL (Rep S w u) l flat ∧ ((v = .slice none 0 0 ∧ l = []) ∨ ∃ a c, v = .slice (some a) l.length c ∧ Mem w a flat)

theorem src_sl {S : Nat → Prop} {w : World} {u : U} {l : List (El u)} {v : Value} (h : Rep S w (.sl u) l [v]) : Src S w u l v := by
  obtain ⟨A, cap, cs, hv, hc, hl, hA⟩ := h
  injection hv with hv _
  subst hv
  cases A with
  | none => obtain ⟨rfl, rfl⟩ := hA; exact ⟨cs, hl, .inl ⟨rfl, rfl⟩⟩
  | some a => exact ⟨cs, hl, .inr ⟨a, cap, rfl, hA.1⟩⟩

theorem src_row {S : Nat → Prop} {w : World} {φ : Nat → Value} {h : Nat → B} {ok : Nat → Prop} {e : Nat} {u : U} {l : List (El u)} {v : Value} (hb : RelB S w φ h ok v (.row e u l)) : Src S w u l v := by
  obtain ⟨_, flat, ho, hl, _⟩ := hb
  rcases ho.2 with ⟨h0, hz⟩ | ⟨g, cap, cur, h0, _⟩
  · exact ⟨flat, hl, .inl ⟨h0, List.eq_nil_of_length_eq_zero hz⟩⟩
  · exact ⟨flat, hl, .inr ⟨⟨g, 0, none⟩, cap, h0, ho.cells (by rw [h0]; rfl)⟩⟩

theorem src_data {S : Nat → Prop} {w : World} {φ : Nat → Value} {h : Nat → B} {ok : Nat → Prop} (hb : ∀ n, RelB S w φ h ok (φ n) (h n)) {u : U} {c : C} {v : Value} {l : List (El u)} (hr : RelC S w φ h c v) (hd : dataSl h u c = some l) : Src S w u l v := by
  unfold dataSl at hd
  split at hd
  · rename_i u' l'
    split at hd
    · rename_i e; subst e; injection hd with hd; subst hd; exact src_sl hr
    · cases hd
  · split at hd
    · rename_i e; subst e; injection hd with hd; subst hd; exact src_sl hr.1
    · cases hd
  · injection hd with hd; subst hd
    exact ⟨[], rfl, .inl ⟨hr, rfl⟩⟩
  · rename_i n
    obtain ⟨_, hv, _⟩ := hr
    subst hv
    have hn := hb n
    split at hd
    · rename_i e u' l' hh
      split at hd
      · rename_i q; subst q; injection hd with hd; subst hd
        rw [hh] at hn; exact src_row hn
      · cases hd
    · rename_i e u' l' hh
      split at hd
      · rename_i q; subst q; injection hd with hd; subst hd
        rw [hh] at hn; exact src_sl (rep_ro hn)
      · cases hd
    · cases hd
  · cases hd

/-- append, whatever is appended. -/
theorem run_append_any {w : World} {t : TypeId} {e : Nat} {ie : TI} (ok : TIok P e ie) (ht : P.underlying t = some (.slice e)) (ty : TypeId) {S : Nat → Prop} {u : U} (hu : 0 < u.n) (hue : u = ie.u) {l l2 : List (El u)} {v vx : Value} {flat : List Value}
    (ho : w.ownsRow 0 e u.n v l.length flat) (hl : RepL (Rep S w u) l flat) (hx : Src S w u l2 vx) (hn : (l.length + l2.length) * ie.bytes ≤ roomy) :
    ∃ v' w' flat', (Builtin.append_ #[t, t] ty #[v, vx]).run P w = .ok v' w' ∧ w'.ownsRow 0 e u.n v' (l ++ l2).length flat' ∧ RepL (Rep S w u) (l ++ l2) flat' ∧ w.grownBy w' (blk v) ∧
      (∀ g, blk v' = some g → blk v = some g ∨ w.heap.size ≤ g) ∧ ∃ A n c, v' = .slice A n c := by
  obtain ⟨inf, z, hi, hsz, hby, hz, hzs, _⟩ := ok.info
  obtain ⟨hus, hbp⟩ := ok.u (by rw [← hue]; exact hu)
  rw [← hue] at hus
  obtain ⟨flat2, hl2, hv⟩ := hx
  have hbk : blk v = v.ownBlock := blk_eq_ownBlock ho
  rcases hv with ⟨rfl, rfl⟩ | ⟨a, c, rfl, hm⟩
  · refine ⟨v, w, flat, ?_, by simpa using ho, by simpa using hl, ⟨rfl, rfl, rfl, Nat.le_refl _, fun _ _ _ => rfl⟩, fun g hg => .inl hg, ?_⟩
    · exact run_append_owned_none (P := P) w 0 t ty e inf u.n ht hi v l.length flat ho
    · rcases ho.2 with ⟨rfl, _⟩ | ⟨g, cap, cur, rfl, _⟩ <;> exact ⟨_, _, _, rfl⟩
  · have h63 : l.length + l2.length ≤ maxLen := by
      have : l.length + l2.length ≤ (l.length + l2.length) * ie.bytes := Nat.le_mul_of_pos_right _ hbp
      simp only [roomy, maxLen] at *
      omega
    obtain ⟨v', w', hr, h2, h3, h4, h5⟩ := run_append_own_at (P := P) w 0 t ty e inf z u.n ie.bytes ht hi hz (by rw [hsz, hus]) hby (by rw [hzs, hus]) hu v l.length flat ho a l2.length c flat2 hl2.length hm hl2.one h63
      (by simp only [roomy] at hn; omega) (Nat.zero_le _)
    refine ⟨v', w', flat ++ flat2, hr, by rw [List.length_append]; exact h2, hl.append hl2, by rw [hbk]; exact h3, fun g hg => ?_, ?_⟩
    · rw [blk_eq_ownBlock h2] at hg
      rcases h5 with h5 | h5
      · exact .inl (by rw [hbk, ← h5]; exact hg)
      · rw [h5] at hg; injection hg with hg; exact .inr (by omega)
    · rcases h2.2 with ⟨rfl, _⟩ | ⟨g, cap, cur, rfl, _⟩ <;> exact ⟨_, _, _, rfl⟩

theorem append_sound {cx : Cx} {φ : Nat → Value} {S : Nat → Prop} {w : World} {st : St} {t : TypeId} {e : Nat} {ie : TI} (ok : TIok P e ie) (ht : P.underlying t = some (.slice e)) (ty : TypeId) (m : RelH cx φ S st.h w) {s x : C} {vs vx : Value}
    (hs : RelC S w φ st.h s vs) (hx : RelC S w φ st.h x vx) {dst : Nat} {κ : V → St → Option ρ} {r : ρ} (hl : append st dst e ie s x κ = some r) :
    ∃ v st' φ' S' v' w', κ v st' = some r ∧ (Builtin.append_ #[t, t] ty #[vs, vx]).run P w = .ok v' w' ∧ RelH cx φ' S' st'.h w' ∧ st'.t = st.t ∧ Later S S' w w' φ φ' st.h st'.h ∧ RelV S' w' φ' st'.h v v' := by
  unfold append at hl
  cases s with
  | nils =>
    simp only at hl
    split at hl
    · rename_i l2 hd
      cases hb : decide (l2.length * ie.bytes ≤ roomy) with
      | false => rw [hb] at hl; cases hl
      | true =>
        rw [hb] at hl
        simp only [cond_true] at hl
        obtain ⟨hu, hf, hgl, hl⟩ := newRow_some hl
        have : vs = .slice none 0 0 := hs
        subst this
        obtain ⟨v', w', flat', hr, h2, h3, h4, h5, h6⟩ := run_append_any (w := w) ok ht ty hu rfl (l := []) (v := .slice none 0 0) (flat := []) (World.ownsRow_nil w 0 e ie.u.n) rfl (src_data m.b hx hd) (by simpa using of_decide_eq_true hb)
        obtain ⟨hm, hlat⟩ := m.newRow none (by simp) (dst := dst) hf hgl (w' := w') h4 hu h2 h3 (fun g hg => .inr ((h5 g hg).resolve_left (by simp [blk])))
        exact ⟨_, _, _, S, v', w', hl, hr, hm, rfl, hlat, by show (upd st.h dst _ dst).live = true; rw [upd_same]; rfl, by rw [upd_same], h6⟩
    · cases hl
  | row n =>
    simp only at hl
    split at hl
    · rename_i e' u l eh
      split at hl
      · rename_i q1 q2
        have q1 := Nat.eq_of_beq_eq_true q1
        subst q1
        have q2 : u = ie.u := by
          by_cases q : u = ie.u
          · exact q
          · rw [if_neg q] at q2; cases q2
        split at hl
        · rename_i l2 hd
          cases hb : decide ((l.length + l2.length) * ie.bytes ≤ roomy) with
          | false => rw [hb] at hl; cases hl
          | true =>
            rw [hb] at hl
            simp only [cond_true] at hl
            obtain ⟨hu, hf, hgl, hl⟩ := newRow_some hl
            obtain ⟨_, rfl, _⟩ := hs
            have hn := m.b n
            rw [eh] at hn
            obtain ⟨_, flat, ho, hfl, _⟩ := hn
            obtain ⟨v', w', flat', hr, h2, h3, h4, h5, h6⟩ := run_append_any (w := w) ok ht ty hu q2 ho hfl (src_data m.b hx hd) (of_decide_eq_true hb)
            obtain ⟨hm, hlat⟩ := m.newRow (some n) (fun k hk => by cases hk; rw [eh]; rfl) (dst := dst) hf hgl (w' := w') h4 hu h2 h3 (fun g hg => (h5 g hg).imp (fun h => ⟨n, rfl, h⟩) id)
            exact ⟨_, _, _, S, v', w', hl, hr, hm, rfl, hlat, by show (upd (upd st.h n .gone) dst _ dst).live = true; rw [upd_same]; rfl, by rw [upd_same], h6⟩
        · cases hl
      · cases hl
    · cases hl
  | _ => cases hl
end Go.Proofs.Ytcijmfodhdigpaa.R1
