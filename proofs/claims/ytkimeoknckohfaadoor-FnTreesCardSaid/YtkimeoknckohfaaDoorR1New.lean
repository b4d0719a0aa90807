/- New blocks: variables in memory, rows; appends. -/
import Derived.Test.YtkimeoknckohfaaDoorR1Ops
namespace Go.Proofs.YtkimeoknckohfaaDoor.R1
variable {P : Program} {ρ : Type}

theorem newBlock_some {st : St} {n : Nat} {b : B} {κ : St → Option ρ} {r : ρ} (h : newBlock st n b κ = some r) : st.h n = .free ∧ isKept n = false ∧ κ { st with h := upd st.h n b } = some r := by
  unfold newBlock at h
  split at h
  · rename_i e1 e2; exact ⟨e1, e2, h⟩
  · cases h

theorem newRow_some {st : St} {n e : Nat} {u : U} {l : List (El u)} {κ : St → Option ρ} {r : ρ} (h : newRow st n e u l κ = some r) :
    0 < u.n ∧ st.h n = .free ∧ isKept n = false ∧ κ { st with h := upd st.h n (.row e u l) } = some r := by
  unfold newRow at h
  split at h
  · rename_i e1; exact ⟨by simpa [Nat.blt_eq] using e1, newBlock_some h⟩
  · cases h

section
variable {cx : Cx} {φ : Nat → Value} {S : Nat → Prop} {h : Nat → B} {w : World}

theorem RelH.newBox (m : RelH cx φ S h w) {dst : Nat} (hf : h dst = .free) (hgl : isKept dst = false) {t : TypeId} {cs : List C} {vals : Array Value} (ha : All2 (RelC S w φ h) cs vals.toList) :
    RelH cx (upd φ dst (.pointer (some ⟨w.heap.size, 0, none⟩))) S (upd h dst (.box t cs)) (w.alloc (.cells vals t)) ∧
      Later S S w (w.alloc (.cells vals t)) φ (upd φ dst (.pointer (some ⟨w.heap.size, 0, none⟩))) h (upd h dst (.box t cs)) := by
  have hfree : (none : Option Nat) = some dst ∧ pv (Value.pointer (some ⟨w.heap.size, 0, none⟩)) = pv (φ dst) ∨ (h dst).live = false ∧ isKept dst = false := .inr ⟨by rw [hf]; rfl, hgl⟩
  have hkeep : ∀ g, g < w.heap.size → (∀ n, (none : Option Nat) = some n → ¬ Bk (φ n) g) → (w.alloc (.cells vals t)).heap[g]? = w.heap[g]? := fun g hg _ => heap_alloc_old w _ g hg
  have hlat := Later.of_change m none (by simp) hkeep dst (.box t cs) (.pointer (some ⟨w.heap.size, 0, none⟩)) rfl hfree
  refine ⟨?_, hlat⟩
  refine m.change (w' := w.alloc (.cells vals t)) rfl rfl rfl (by simp) none (by simp) hkeep dst (.box t cs) (.pointer (some ⟨w.heap.size, 0, none⟩)) rfl hfree (fun g hg => ?_) (fun h' hh => ?_)
  · exact .inr (Nat.le_of_eq (bk_pointer.1 hg).symm)
  · subst hh
    exact ⟨w.heap.size, vals, rfl, heap_alloc_new w _, ha.mono fun c x hc => hlat.relC hc, .inl m.keep.size⟩

theorem RelH.bk_pv (m : RelH cx φ S h w) {n g : Nat} (hr : (h n).isRow = true) (hg : blk (pv (φ n)) = some g) : Bk (φ n) g := by
  have hb := m.b n
  cases eb : h n with
  | row ee uu ll =>
    rw [eb] at hb
    rw [pv_row hb] at hg
    exact .of_blk hg
  | own t o l =>
    rw [eb] at hb
    obtain ⟨s, F, hφ, ⟨flat, F', _, _, _, hF⟩, _⟩ := hb
    rw [hφ.1] at hg
    unfold Bk; rw [hφ.2, hF, hg]
    exact List.mem_append.2 (.inl (List.mem_singleton.2 rfl))
  | _ => rw [eb] at hr; cases hr

/-- A world that differs in new blocks and in the blocks of some names, which are given up; what comes of them stands under a new name. -/
theorem RelH.gather (m : RelH cx φ S h w) {w' : World} (ho : w'.os = w.os) (ht : w'.tape = w.tape) (hu : w'.output = w.output) (hs : w.heap.size ≤ w'.heap.size)
    (ns : List Nat) (hold : ∀ n ∈ ns, (h n).mut = true)
    (hb : ∀ g, g < w.heap.size → (∀ n ∈ ns, ¬ Bk (φ n) g) → w'.heap[g]? = w.heap[g]?)
    {dst : Nat} (hf : goneL h ns dst = .free) (hgl : isKept dst = false) {t : Nat} {o : O} {l : List (El o.u)} {s : Value} {F : List Nat}
    (hown : OwnAt (RepO S w' o) w' t o.u.n l s F) (hnd : F.Nodup) (hv : ∀ g ∈ F, (∃ n ∈ ns, Bk (φ n) g) ∨ w.heap.size ≤ g) :
    RelH cx (upd φ dst (ghost s F)) S (upd (goneL h ns) dst (.own t o l)) w' ∧ Later S S w w' φ (upd φ dst (ghost s F)) h (upd (goneL h ns) dst (.own t o l)) := by
  have hdn : dst ∉ ns := fun q => by rw [goneL_in q] at hf; cases hf
  have hdl : h dst = .free := by rw [← goneL_out (h := h) hdn]; exact hf
  generalize hh : goneL h ns = h1
  have h1live : ∀ n, (h1 n).live = (h n).live := by
    intro n
    subst hh
    by_cases q : n ∈ ns
    · rw [goneL_in q, live_of_mut (hold n q)]; rfl
    · rw [goneL_out q]
  have h1mut : ∀ n, (h1 n).mut = true → (h n).mut = true ∧ n ∉ ns := by
    intro n hn
    subst hh
    by_cases q : n ∈ ns
    · rw [goneL_in q] at hn; cases hn
    · rw [goneL_out q] at hn; exact ⟨hn, q⟩
  have hbv : ∀ g, Bk (ghost s F) g → g ∈ F := fun g hg => by unfold Bk at hg; rwa [pf_ghost] at hg
  have hφ : ∀ n, (h n).live = true → (upd h1 dst (.own t o l) n).live = true ∧ pv (upd φ dst (ghost s F) n) = pv (φ n) := by
    intro n hn
    refine ⟨upd_live rfl n (by rw [h1live]; exact hn), ?_⟩
    have : n ≠ dst := by rintro rfl; rw [hdl] at hn; cases hn
    rw [upd_ne _ _ this]
  have hkS : ∀ g, S g → w'.heap[g]? = w.heap[g]? := fun g hg => hb g (m.lt g hg) fun n hn hbl => m.sep n g (hold n hn) hbl hg
  have other : ∀ n g, (h1 n).mut = true → Bk (φ n) g → w'.heap[g]? = w.heap[g]? := by
    intro n g hm hbk
    obtain ⟨hm', hno⟩ := h1mut n hm
    refine hb g (m.blk_lt hm' hbk) fun n0 hn0 hb0 => ?_
    exact m.apart n n0 g (by rintro rfl; exact hno hn0) hm' (hold n0 hn0) hbk hb0
  refine ⟨?_, ⟨fun _ h => h, hkS, hφ⟩⟩
  constructor
  · intro n
    by_cases e : n = dst
    · subst e
      rw [upd_same, upd_same]
      refine ⟨s, F, ⟨pv_ghost s F, pf_ghost s F⟩, hown, hnd, fun g hg => ?_⟩
      rcases hv g hg with ⟨k, hk, hbk⟩ | hge
      · exact mut_ok (hold k hk) (m.b k) hbk
      · exact .inl (Nat.le_trans m.keep.size hge)
    · rw [upd_ne _ _ e, upd_ne _ _ e]
      have hb0 : RelB S w φ h cx.ok (φ n) (h1 n) := by
        subst hh
        by_cases q : n ∈ ns
        · rw [goneL_in q]; trivial
        · rw [goneL_out q]; exact m.b n
      exact RelB.mono (fun _ h => h) hkS hφ (fun hm g hg => other n g hm hg) hb0
  · intro n k g hnk hn hk hbn hbk
    have key : ∀ k, k ≠ dst → (h1 k).mut = true → Bk (φ k) g → g ∉ F := by
      intro k hk hm hbk hg
      obtain ⟨hk', hko⟩ := h1mut k hm
      rcases hv g hg with ⟨n0, hn0, hb0⟩ | hge
      · exact m.apart k n0 g (by rintro rfl; exact hko hn0) hk' (hold n0 hn0) hbk hb0
      · have := m.blk_lt hk' hbk; omega
    by_cases e : n = dst
    · subst e
      rw [upd_same] at hbn
      have e' : k ≠ n := fun e => hnk e.symm
      rw [upd_ne _ _ e'] at hk hbk
      exact key k e' hk hbk (hbv g hbn)
    · rw [upd_ne _ _ e] at hn hbn
      by_cases e2 : k = dst
      · subst e2
        rw [upd_same] at hbk
        exact key n e hn hbn (hbv g hbk)
      · rw [upd_ne _ _ e2] at hk hbk
        exact m.apart n k g hnk (h1mut n hn).1 (h1mut k hk).1 hbn hbk
  · intro n g hn hbn hg
    by_cases e : n = dst
    · subst e
      rw [upd_same] at hbn
      rcases hv g (hbv g hbn) with ⟨n0, hn0, hb0⟩ | hge
      · exact m.sep n0 g (hold n0 hn0) hb0 hg
      · have := m.lt g hg; omega
    · rw [upd_ne _ _ e] at hn hbn
      exact m.sep n g (h1mut n hn).1 hbn hg
  · exact m.inS
  · exact fun g hg => Nat.lt_of_lt_of_le (m.lt g hg) hs
  · intro g hgl' hg
    have e : gname g ≠ dst := by rintro rfl; rw [kept_glob hgl] at hgl'; cases hgl'
    rw [upd_ne _ _ e]
    rw [upd_ne _ _ e, h1live] at hg
    exact m.glob g hgl' hg
  · intro n hgl'
    obtain ⟨hg1, hg2⟩ := m.gl n hgl'
    have hnd : n ≠ dst := by rintro rfl; rw [kept_glob hgl] at hgl'; cases hgl'
    rw [upd_ne _ _ hnd]
    have : h1 n = h n := by
      subst hh
      exact goneL_out fun q => by rw [hold n q] at hg2; cases hg2
    rw [this]; exact ⟨hg1, hg2⟩
  · intro n hk hl
    have e : n ≠ dst := by rintro rfl; rw [hgl] at hk; cases hk
    rw [upd_ne _ _ e] at hl ⊢
    rw [h1live] at hl
    exact m.kp n hk hl
  · refine m.keep.step ho ht hu hs fun g hg hno => hb g hg fun n hn hbn => hno ?_
    exact mut_ok (hold n hn) (m.b n) hbn

/-- A row that is made, or grown out of another one. -/
theorem RelH.newRow (m : RelH cx φ S h w) (old : Option Nat) (hold : ∀ n, old = some n → (h n).isRow = true) {dst : Nat} (hf : giveUp h old dst = .free) (hgl : isKept dst = false)
    {w' : World} (hg : w.grownBy w' (match old with | some n => blk (pv (φ n)) | none => none)) {v : Value} {e : Nat} {u : U} {l : List (El u)} {flat : List Value} (hu : 0 < u.n)
    (ho : w'.ownsRow 0 e u.n v l.length flat) (hl : RepL (Rep S w u) l flat) (hv : ∀ g, Bk v g → (∃ n, old = some n ∧ Bk (φ n) g) ∨ w.heap.size ≤ g) :
    RelH cx (upd φ dst v) S (upd (giveUp h old) dst (.row e u l)) w' ∧ Later S S w w' φ (upd φ dst v) h (upd (giveUp h old) dst (.row e u l)) := by
  have hmut : ∀ n, old = some n → (h n).mut = true := fun n hn => by have := hold n hn; cases e : h n <;> rw [e] at this <;> first | rfl | cases this
  have hdl : (h dst).live = false := by
    cases old with
    | none => rw [show h dst = .free from hf]; rfl
    | some n =>
      by_cases e : dst = n
      · subst e; simp only [giveUp, upd_same] at hf; cases hf
      · simp only [giveUp, upd_ne _ _ e] at hf; rw [hf]; rfl
  have hfree : old = some dst ∧ pv v = pv (φ dst) ∨ (h dst).live = false ∧ isKept dst = false := .inr ⟨hdl, hgl⟩
  have hkeep : ∀ g, g < w.heap.size → (∀ n, old = some n → ¬ Bk (φ n) g) → w'.heap[g]? = w.heap[g]? := fun g hlt hne => hg.block g hlt (by
    cases old with
    | none => simp
    | some n => exact fun e => hne n rfl (by
        exact m.bk_pv (hold n rfl) e.symm))
  have hlat := Later.of_change m (w' := w') old hmut hkeep dst (.row e u l) v rfl hfree
  refine ⟨?_, hlat⟩
  refine m.change hg.os hg.tape hg.output hg.size old hmut hkeep dst (.row e u l) v rfl hfree hv (fun h' hh => ?_)
  subst hh
  refine ⟨hu, flat, ho, hl.mono fun _ _ hr => Rep.mono hlat.s hlat.k hr, fun g hbg => ?_⟩
  rcases hv g hbg with ⟨n, hn, hbn⟩ | hge
  · have hb := m.b n
    exact mut_ok (hmut n hn) hb hbn
  · exact .inl (Nat.le_trans m.keep.size hge)
end

/-- What a data slice's value is, where it is a source. -/
def Src (S : Nat → Prop) (w : World) (u : U) (l : List (El u)) (v : Value) : Prop :=
  ∃ flat, RepL (Rep S w u) l flat ∧ ((v = .slice none 0 0 ∧ l = []) ∨ ∃ a c, v = .slice (some a) l.length c ∧ Mem w a flat)

theorem src_sl {S : Nat → Prop} {w : World} {u : U} {l : List (El u)} {v : Value} (h : Rep S w (.sl u) l [v]) : Src S w u l v := by
  obtain ⟨A, cap, cs, hv, hc, hl, hA⟩ := h
  injection hv with hv _
  subst hv
  cases A with
  | none => obtain ⟨rfl, rfl⟩ := hA; exact ⟨cs, hl, .inl ⟨rfl, rfl⟩⟩
  | some a => exact ⟨cs, hl, .inr ⟨a, cap, rfl, hA.1⟩⟩

theorem src_row {S : Nat → Prop} {w : World} {φ : Nat → Value} {h : Nat → B} {ok : Nat → Prop} {e : Nat} {u : U} {l : List (El u)} {v : Value} (hb : RelB S w φ h ok v (.row e u l)) : Src S w u l (pv v) := by
  rw [pv_row hb]
  obtain ⟨_, flat, ho, hl, _⟩ := hb
  rcases ho.2 with ⟨h0, hz⟩ | ⟨g, cap, cur, h0, _⟩
  · exact ⟨flat, hl, .inl ⟨h0, List.eq_nil_of_length_eq_zero hz⟩⟩
  · exact ⟨flat, hl, .inr ⟨⟨g, 0, none⟩, cap, h0, ho.cells (by rw [h0]; rfl)⟩⟩

theorem src_data {S : Nat → Prop} {w : World} {φ : Nat → Value} {h : Nat → B} {ok : Nat → Prop} (hb : ∀ n, RelB S w φ h ok (φ n) (h n)) {u : U} {c : C} {v : Value} {l : List (El u)} (hr : RelC S w φ h c v) (hd : news h u c = some l) : Src S w u l v := by
  have hno : ∀ n t o l, c = .row n → h n ≠ .own t o l := by
    rintro n t o l rfl e
    simp only [news, e] at hd
    cases hd
  replace hd : dataSl h u c = some l := by
    cases c with
    | row n => simp only [news] at hd; split at hd <;> first | cases hd | exact hd
    | _ => exact hd
  unfold dataSl at hd
  split at hd
  · rename_i u' l'
    split at hd
    · rename_i e; subst e; injection hd with hd; subst hd; exact src_sl hr
    · cases hd
  · split at hd
    · rename_i e; subst e; injection hd with hd; subst hd; exact src_sl hr.1
    · cases hd
  · injection hd with hd; subst hd
    exact ⟨[], rfl, .inl ⟨hr, rfl⟩⟩
  · rename_i n
    obtain ⟨_, hv, _⟩ := hr
    subst hv
    have hn := hb n
    split at hd
    · rename_i e u' l' hh
      split at hd
      · rename_i q; subst q; injection hd with hd; subst hd
        rw [hh] at hn; exact src_row hn
      · cases hd
    · rename_i e u' l' hh
      split at hd
      · rename_i q; subst q; injection hd with hd; subst hd
        rw [hh] at hn; exact src_sl (rep_ro hn)
      · cases hd
    · rename_i hh; exact absurd hh (hno n _ _ _ rfl)
    · cases hd
  · cases hd

/-- append, whatever is appended. -/
theorem run_append_any {w : World} {t : TypeId} {e : Nat} {ie : TI} (ok : TIok P e ie) (ht : P.underlying t = some (.slice e)) (ty : TypeId) {S : Nat → Prop} {u : U} (hu : 0 < u.n) (hue : u = ie.u) {l l2 : List (El u)} {v vx : Value} {flat : List Value}
    (ho : w.ownsRow 0 e u.n v l.length flat) (hl : RepL (Rep S w u) l flat) (hx : Src S w u l2 vx) (hn : (l.length + l2.length) * ie.bytes ≤ roomy) :
    ∃ v' w' flat', (Builtin.append_ #[t, t] ty #[v, vx]).run P w = .ok v' w' ∧ w'.ownsRow 0 e u.n v' (l ++ l2).length flat' ∧ RepL (Rep S w u) (l ++ l2) flat' ∧ w.grownBy w' (blk v) ∧
      (∀ g, blk v' = some g → blk v = some g ∨ w.heap.size ≤ g) ∧ ∃ A n c, v' = .slice A n c := by
  obtain ⟨inf, z, hi, hsz, hby, hz, hzs, _⟩ := ok.info
  obtain ⟨hus, hbp⟩ := ok.u (by rw [← hue]; exact hu)
  rw [← hue] at hus
  obtain ⟨flat2, hl2, hv⟩ := hx
  have hbk : blk v = v.ownBlock := blk_eq_ownBlock ho
  rcases hv with ⟨rfl, rfl⟩ | ⟨a, c, rfl, hm⟩
  · refine ⟨v, w, flat, ?_, by simpa using ho, by simpa using hl, ⟨rfl, rfl, rfl, Nat.le_refl _, fun _ _ _ => rfl⟩, fun g hg => .inl hg, ?_⟩
    · exact run_append_owned_none (P := P) w 0 t ty e inf u.n ht hi v l.length flat ho
    · rcases ho.2 with ⟨rfl, _⟩ | ⟨g, cap, cur, rfl, _⟩ <;> exact ⟨_, _, _, rfl⟩
  · have h63 : l.length + l2.length ≤ maxLen := by
      have : l.length + l2.length ≤ (l.length + l2.length) * ie.bytes := Nat.le_mul_of_pos_right _ hbp
      simp only [roomy, maxLen] at *
      omega
    obtain ⟨v', w', hr, h2, h3, h4, h5⟩ := run_append_own_at (P := P) w 0 t ty e inf z u.n ie.bytes ht hi hz (by rw [hsz, hus]) hby (by rw [hzs, hus]) hu v l.length flat ho a l2.length c flat2 hl2.length hm hl2.one h63
      (by simp only [roomy] at hn; omega) (Nat.zero_le _)
    refine ⟨v', w', flat ++ flat2, hr, by rw [List.length_append]; exact h2, hl.append hl2, by rw [hbk]; exact h3, fun g hg => ?_, ?_⟩
    · rw [blk_eq_ownBlock h2] at hg
      rcases h5 with h5 | h5
      · exact .inl (by rw [hbk, ← h5]; exact hg)
      · rw [h5] at hg; injection hg with hg; exact .inr (by omega)
    · rcases h2.2 with ⟨rfl, _⟩ | ⟨g, cap, cur, rfl, _⟩ <;> exact ⟨_, _, _, rfl⟩

theorem append_sound {cx : Cx} {φ : Nat → Value} {S : Nat → Prop} {w : World} {st : St} {t : TypeId} {e : Nat} {ie : TI} (ok : TIok P e ie) (ht : P.underlying t = some (.slice e)) (ty : TypeId) (m : RelH cx φ S st.h w) {s x : C} {vs vx : Value}
    (hs : RelC S w φ st.h s vs) (hx : RelC S w φ st.h x vx) {dst : Nat} {κ : V → St → Option ρ} {r : ρ} (hl : append st dst e ie s x κ = some r) :
    ∃ v st' φ' S' v' w', κ v st' = some r ∧ (Builtin.append_ #[t, t] ty #[vs, vx]).run P w = .ok v' w' ∧ RelH cx φ' S' st'.h w' ∧ st'.t = st.t ∧ Later S S' w w' φ φ' st.h st'.h ∧ RelV S' w' φ' st'.h v v' := by
  unfold append at hl
  cases s with
  | nils =>
    simp only at hl
    split at hl
    · rename_i l2 hd
      cases hb : decide (l2.length * ie.bytes ≤ roomy) with
      | false => rw [hb] at hl; cases hl
      | true =>
        rw [hb] at hl
        simp only [cond_true] at hl
        obtain ⟨hu, hf, hgl, hl⟩ := newRow_some hl
        have : vs = .slice none 0 0 := hs
        subst this
        obtain ⟨v', w', flat', hr, h2, h3, h4, h5, h6⟩ := run_append_any (w := w) ok ht ty hu rfl (l := []) (v := .slice none 0 0) (flat := []) (World.ownsRow_nil w 0 e ie.u.n) rfl (src_data m.b hx hd) (by simpa using of_decide_eq_true hb)
        obtain ⟨hm, hlat⟩ := m.newRow none (by simp) (dst := dst) hf hgl (w' := w') h4 hu h2 h3 (fun g hg => .inr ((h5 g ((bk_owns h2).1 hg)).resolve_left (by simp [blk])))
        exact ⟨_, _, _, S, v', w', hl, hr, hm, rfl, hlat, by show (upd st.h dst _ dst).live = true; rw [upd_same]; rfl, by rw [upd_same, pv_slice h6], h6⟩
    · cases hl
  | row n =>
    simp only at hl
    split at hl
    · rename_i e' u l eh
      split at hl
      · rename_i q1 q2
        have q1 := Nat.eq_of_beq_eq_true q1
        subst q1
        have q2 : u = ie.u := by
          by_cases q : u = ie.u
          · exact q
          · rw [if_neg q] at q2; cases q2
        split at hl
        · rename_i l2 hd
          cases hb : decide ((l.length + l2.length) * ie.bytes ≤ roomy) with
          | false => rw [hb] at hl; cases hl
          | true =>
            rw [hb] at hl
            simp only [cond_true] at hl
            obtain ⟨hu, hf, hgl, hl⟩ := newRow_some hl
            obtain ⟨_, rfl, _⟩ := hs
            have hn := m.b n
            rw [eh] at hn
            have hpv := pv_row hn
            obtain ⟨_, flat, ho, hfl, _⟩ := hn
            rw [hpv]
            obtain ⟨v', w', flat', hr, h2, h3, h4, h5, h6⟩ := run_append_any (w := w) ok ht ty hu q2 ho hfl (src_data m.b hx hd) (of_decide_eq_true hb)
            obtain ⟨hm, hlat⟩ := m.newRow (some n) (fun k hk => by cases hk; rw [eh]; rfl) (dst := dst) hf hgl (w' := w') (by show w.grownBy w' (blk (pv (φ n))); rw [hpv]; exact h4) hu h2 h3 (fun g hg => (h5 g ((bk_owns h2).1 hg)).imp (fun h => ⟨n, rfl, .of_blk h⟩) id)
            exact ⟨_, _, _, S, v', w', hl, hr, hm, rfl, hlat, by show (upd (upd st.h n .gone) dst _ dst).live = true; rw [upd_same]; rfl, by rw [upd_same, pv_slice h6], h6⟩
        · cases hl
      · cases hl
    · cases hl
  | _ => cases hl

theorem newOwn_some {st : St} {n e : Nat} {o : O} {l : List (El o.u)} {κ : St → Option ρ} {r : ρ} (h : newOwn st n e o l κ = some r) :
    0 < o.u.n ∧ st.h n = .free ∧ isKept n = false ∧ κ { st with h := upd st.h n (.own e o l) } = some r := by
  unfold newOwn at h
  split at h
  · rename_i e1; exact ⟨by simpa [Nat.blt_eq] using e1, newBlock_some h⟩
  · cases h

theorem run_append_flat {w : World} {t : TypeId} {e : Nat} {ie : TI} (ok : TIok P e ie) (ht : P.underlying t = some (.slice e)) (ty : TypeId) {size n n2 : Nat} (hu : 0 < size) (hue : size = ie.size) (hbp : 0 < ie.bytes) {v vx : Value} {flat flat2 : List Value}
    (ho : w.ownsRow 0 e size v n flat) (hx : vx = .slice none 0 0 ∧ n2 = 0 ∨ ∃ a c, vx = .slice (some a) n2 c ∧ Mem w a flat2) (hl2 : flat2.length = n2 * size) (h1 : ∀ v ∈ flat2, v.oneCell' = true) (hn : (n + n2) * ie.bytes ≤ roomy) :
    ∃ v' w', (Builtin.append_ #[t, t] ty #[v, vx]).run P w = .ok v' w' ∧ w'.ownsRow 0 e size v' (n + n2) (flat ++ flat2) ∧ w.grownBy w' (blk v) ∧
      (∀ g, blk v' = some g → blk v = some g ∨ w.heap.size ≤ g) ∧ ∃ A n c, v' = .slice A n c := by
  obtain ⟨inf, z, hi, hsz, hby, hz, hzs, _⟩ := ok.info
  have hbk : blk v = v.ownBlock := blk_eq_ownBlock ho
  rcases hx with ⟨rfl, rfl⟩ | ⟨a, c, rfl, hm⟩
  · have : flat2 = [] := List.eq_nil_of_length_eq_zero (by simpa using hl2)
    subst this
    refine ⟨v, w, ?_, by simpa using ho, ⟨rfl, rfl, rfl, Nat.le_refl _, fun _ _ _ => rfl⟩, fun g hg => .inl hg, ?_⟩
    · exact run_append_owned_none (P := P) w 0 t ty e inf size ht hi v n flat ho
    · rcases ho.2 with ⟨rfl, _⟩ | ⟨g, cap, cur, rfl, _⟩ <;> exact ⟨_, _, _, rfl⟩
  · have h63 : n + n2 ≤ maxLen := by
      have : n + n2 ≤ (n + n2) * ie.bytes := Nat.le_mul_of_pos_right _ hbp
      simp only [roomy, maxLen] at *
      omega
    obtain ⟨v', w', hr, h2, h3, h4, h5⟩ := run_append_own_at (P := P) w 0 t ty e inf z size ie.bytes ht hi hz (by rw [hsz, hue]) hby (by rw [hzs, hue]) hu v n flat ho a n2 c flat2 hl2 hm h1 h63
      (by simp only [roomy] at hn; omega) (Nat.zero_le _)
    refine ⟨v', w', hr, h2, by rw [hbk]; exact h3, fun g hg => ?_, ?_⟩
    · rw [blk_eq_ownBlock h2] at hg
      rcases h5 with h5 | h5
      · exact .inl (by rw [hbk, ← h5]; exact hg)
      · rw [h5] at hg; injection hg with hg; exact .inr (by omega)
    · rcases h2.2 with ⟨rfl, _⟩ | ⟨g, cap, cur, rfl, _⟩ <;> exact ⟨_, _, _, rfl⟩

/-- What is appended to, and what is appended. -/
theorem ownNews_rel {cx : Cx} {φ : Nat → Value} {S : Nat → Prop} {w : World} {h : Nat → B} (m : RelH cx φ S h w) {e : Nat} {o : O} (hu : 0 < o.u.n) {c : C} {v : Value} {l : List (El o.u)} {ns : List Nat} (hr : RelC S w φ h c v) (hs : ownNews h e o c = some (l, ns)) :
    ∃ flat F, w.ownsRow 0 e o.u.n v l.length flat ∧ RepOL (RepO S w o) l flat F ∧ ((blk v).toList ++ F).Nodup ∧ (∀ g ∈ (blk v).toList ++ F, ∃ n ∈ ns, Bk (φ n) g) ∧ (∀ n ∈ ns, (h n).mut = true) := by
  unfold ownNews at hs
  split at hs
  · injection hs with hs; injection hs with h1 h2; subst h1; subst h2
    have : v = .slice none 0 0 := hr
    subst this
    exact ⟨[], [], World.ownsRow_nil w 0 e o.u.n, ⟨rfl, rfl⟩, List.nodup_nil, fun g hg => (by cases hg), fun n hn => (by cases hn)⟩
  · rename_i k
    split at hs
    · rename_i t o' l' e'
      cases hq : Nat.beq t e with
      | false => rw [hq] at hs; cases hs
      | true =>
        rw [hq] at hs
        have := Nat.eq_of_beq_eq_true hq; subst this
        simp only [cond_true] at hs
        split at hs
        · rename_i q; subst q
          injection hs with hs; injection hs with h1 h2; subst h1; subst h2
          obtain ⟨_, rfl, _⟩ := hr
          have hb := m.b k
          rw [e'] at hb
          obtain ⟨s, F, hφ, ⟨flat, F', _, how, hol, hF⟩, hnd, _⟩ := hb
          rw [hφ.1]
          rw [hF] at hnd
          refine ⟨flat, F', how, hol, hnd, fun g hg => ⟨k, List.mem_singleton.2 rfl, by unfold Bk; rw [hφ.2, hF]; exact hg⟩, fun n hn => ?_⟩
          rw [List.mem_singleton.1 hn, e']; rfl
        · cases hs
    · cases hs
  · cases hs

theorem appendOwn_sound {cx : Cx} {φ : Nat → Value} {S : Nat → Prop} {w : World} {st : St} {t : TypeId} {e : Nat} {ie : TI} (ok : TIok P e ie) (ht : P.underlying t = some (.slice e)) (ty : TypeId) (m : RelH cx φ S st.h w) {o : O} {s x : C} {vs vx : Value}
    (hs : RelC S w φ st.h s vs) (hx : RelC S w φ st.h x vx) {dst : Nat} {κ : V → St → Option ρ} {r : ρ} (hl : appendOwn st dst e o ie s x κ = some r) :
    ∃ v st' φ' S' v' w', κ v st' = some r ∧ (Builtin.append_ #[t, t] ty #[vs, vx]).run P w = .ok v' w' ∧ RelH cx φ' S' st'.h w' ∧ st'.t = st.t ∧ Later S S' w w' φ φ' st.h st'.h ∧ RelV S' w' φ' st'.h v v' := by
  unfold appendOwn at hl
  split at hl
  · rename_i l ns l2 ms e1 e2
    split at hl
    · rename_i hd hz
      have hz : o.u = ie.u := by
        by_cases q : o.u = ie.u
        · exact q
        · rw [if_neg q] at hz; cases hz
      cases hb : decide ((l.length + l2.length) * ie.bytes ≤ roomy) with
      | false => rw [hb] at hl; cases hl
      | true =>
        rw [hb] at hl
        simp only [cond_true] at hl
        obtain ⟨hu, hf, hgl, hl⟩ := newOwn_some hl
        obtain ⟨hz, hbp⟩ := (by have := ok.u (by rw [← hz]; exact hu); rw [← hz] at this; exact this : o.u.n = ie.size ∧ 0 < ie.bytes)
        obtain ⟨flat, F1, how, hol, hnd1, hF1, hm1⟩ := ownNews_rel m hu hs e1
        obtain ⟨flat2, F2, how2, hol2, hnd2, hF2, hm2⟩ := ownNews_rel m hu hx e2
        have hdn := List.nodup_append.1 (distinct_nodup hd)
        have hxs : vx = .slice none 0 0 ∧ l2.length = 0 ∨ ∃ a c, vx = .slice (some a) l2.length c ∧ Mem w a flat2 := by
          rcases how2.2 with ⟨h0, hz⟩ | ⟨g, cap, cur, h0, _⟩
          · exact .inl ⟨h0, hz⟩
          · exact .inr ⟨⟨g, 0, none⟩, cap, h0, how2.cells (by rw [h0]; rfl)⟩
        obtain ⟨v', w', hrun, how', hgr, hblk, hsl⟩ := run_append_flat (w := w) ok ht ty hu hz hbp how hxs hol2.length hol2.one (of_decide_eq_true hb)
        have cross : ∀ g, g ∈ (blk vs).toList ++ F1 → g ∉ (blk vx).toList ++ F2 := by
          intro g h1 h2
          obtain ⟨n, hn, hbn⟩ := hF1 g h1
          obtain ⟨k, hk, hbk⟩ := hF2 g h2
          exact m.apart n k g (hdn.2.2 n hn k hk) (hm1 n hn) (hm2 k hk) hbn hbk
        have hltF : ∀ g ∈ F1 ++ F2, g < w.heap.size := by
          intro g hg
          rcases List.mem_append.1 hg with q | q
          · exact hol.all (fun _ _ _ hx => RepO.lt hx) g q
          · exact hol2.all (fun _ _ _ hx => RepO.lt hx) g q
        have hnotv : ∀ g ∈ F1 ++ F2, blk vs ≠ some g := by
          intro g hg e
          have hv : g ∈ (blk vs).toList := by rw [e]; exact List.mem_singleton.2 rfl
          rcases List.mem_append.1 hg with q | q
          · exact (List.nodup_append.1 hnd1).2.2 g hv g q rfl
          · exact cross g (List.mem_append.2 (.inl hv)) (List.mem_append.2 (.inr q))
        have hkF : ∀ g ∈ F1 ++ F2, w'.heap[g]? = w.heap[g]? := fun g hg => hgr.block g (hltF g hg) fun e => hnotv g hg e.symm
        have hkeep : ∀ g, g < w.heap.size → (∀ n ∈ ns ++ ms, ¬ Bk (φ n) g) → w'.heap[g]? = w.heap[g]? := fun g hlt hno => hgr.block g hlt fun e => by
          obtain ⟨n, hn, hbn⟩ := hF1 g (List.mem_append.2 (.inl (by rw [← e]; exact List.mem_singleton.2 rfl)))
          exact hno n (List.mem_append.2 (.inl hn)) hbn
        have hold : ∀ n ∈ ns ++ ms, (st.h n).mut = true := fun n hn => (List.mem_append.1 hn).elim (hm1 n) (hm2 n)
        have hkS : ∀ g, S g → w'.heap[g]? = w.heap[g]? := fun g hg => hkeep g (m.lt g hg) fun n hn hbn => m.sep n g (hold n hn) hbn hg
        have mono : ∀ (q : El o.u) (vs : List Value) (G : List Nat), (∀ g ∈ G, w'.heap[g]? = w.heap[g]?) → RepO S w o q vs G → RepO S w' o q vs G := fun q vs G hG hq => hq.mono (fun _ h => h) hkS hG
        have hown : OwnAt (RepO S w' o) w' e o.u.n (l ++ l2) v' ((blk v').toList ++ (F1 ++ F2)) :=
          ⟨_, _, hu, by rw [List.length_append]; exact how', (hol.mono mono fun g hg => hkF g (List.mem_append.2 (.inl hg))).append (hol2.mono mono fun g hg => hkF g (List.mem_append.2 (.inr hg))), rfl⟩
        have hnew : ∀ g, blk v' = some g → blk vs = some g ∨ w.heap.size ≤ g := hblk
        have hnd : ((blk v').toList ++ (F1 ++ F2)).Nodup := by
          refine List.nodup_append.2 ⟨by cases blk v' <;> simp, List.nodup_append.2 ⟨(List.nodup_append.1 hnd1).2.1, (List.nodup_append.1 hnd2).2.1, fun g h1 g' h2 e => ?_⟩, fun g h1 g' h2 e => ?_⟩
          · subst e; exact cross g (List.mem_append.2 (.inr h1)) (List.mem_append.2 (.inr h2))
          · subst e
            have hb' : blk v' = some g := by
              cases q : blk v' with
              | none => rw [q] at h1; cases h1
              | some k => rw [q] at h1; rw [List.mem_singleton.1 h1]
            rcases hnew g hb' with q | q
            · exact hnotv g h2 q
            · have := hltF g h2; omega
        obtain ⟨hm, hlat⟩ := m.gather hgr.os hgr.tape hgr.output hgr.size (ns ++ ms) hold hkeep (dst := dst) hf hgl (t := e) hown hnd (fun g hg => by
          rcases List.mem_append.1 hg with q | q
          · have hb' : blk v' = some g := by
              cases q' : blk v' with
              | none => rw [q'] at q; cases q
              | some k => rw [q'] at q; rw [List.mem_singleton.1 q]
            rcases hnew g hb' with p | p
            · obtain ⟨n, hn, hbn⟩ := hF1 g (List.mem_append.2 (.inl (by rw [p]; exact List.mem_singleton.2 rfl)))
              exact .inl ⟨n, List.mem_append.2 (.inl hn), hbn⟩
            · exact .inr p
          · rcases List.mem_append.1 q with q | q
            · obtain ⟨n, hn, hbn⟩ := hF1 g (List.mem_append.2 (.inr q))
              exact .inl ⟨n, List.mem_append.2 (.inl hn), hbn⟩
            · obtain ⟨n, hn, hbn⟩ := hF2 g (List.mem_append.2 (.inr q))
              exact .inl ⟨n, List.mem_append.2 (.inr hn), hbn⟩)
        exact ⟨_, _, _, S, v', w', hl, hrun, hm, rfl, hlat, by show (upd (goneL st.h (ns ++ ms)) dst _ dst).live = true; rw [upd_same]; rfl, by rw [upd_same, pv_ghost], hsl⟩
    · cases hl
  · cases hl

/-- A row with rows of its own in a new block. -/
theorem RelH.allocOwn {cx : Cx} {φ : Nat → Value} {S : Nat → Prop} {w : World} {h : Nat → B} (m : RelH cx φ S h w) {ns : List Nat} (hold : ∀ n ∈ ns, (h n).mut = true) {dst : Nat} (hf : goneL h ns dst = .free) (hgl : isKept dst = false) {t : TypeId} {o : O} {l : List (El o.u)} {cells : Array Value} {F : List Nat}
    (hu : 0 < o.u.n) (hl : RepOL (RepO S w o) l cells.toList F) (hF : ∀ g ∈ F, ∃ n ∈ ns, Bk (φ n) g) (hnd : F.Nodup) (hn : l.length ≤ Go.maxLen) :
    ∃ φ', RelH cx φ' S (upd (goneL h ns) dst (.own t o l)) (w.alloc (.cells cells t)) ∧ Later S S w (w.alloc (.cells cells t)) φ φ' h (upd (goneL h ns) dst (.own t o l)) ∧ pv (φ' dst) = .slice (some ⟨w.heap.size, 0, none⟩) l.length l.length := by
  have hkeep : ∀ g, g < w.heap.size → (w.alloc (.cells cells t)).heap[g]? = w.heap[g]? := fun g hg => heap_alloc_old w _ g hg
  have hlt : ∀ g ∈ F, g < w.heap.size := hl.all fun _ _ _ hx => RepO.lt hx
  have mono : ∀ (q : El o.u) (vs : List Value) (G : List Nat), (∀ g ∈ G, (w.alloc (.cells cells t)).heap[g]? = w.heap[g]?) → RepO S w o q vs G → RepO S (w.alloc (.cells cells t)) o q vs G := fun q vs G hG hq => hq.mono (fun _ h => h) (fun g hg => hkeep g (m.lt g hg)) hG
  have how := World.ownsRow_lit (e := t) w cells l.length (Nat.zero_le _) hn (by rw [← Array.length_toList]; exact hl.length)
  have hown : OwnAt (RepO S (w.alloc (.cells cells t)) o) (w.alloc (.cells cells t)) t o.u.n l (.slice (some ⟨w.heap.size, 0, none⟩) l.length l.length) (w.heap.size :: F) :=
    ⟨_, F, hu, how, hl.mono mono fun g hg => hkeep g (hlt g hg), rfl⟩
  obtain ⟨hm, hlat⟩ := m.gather (w' := w.alloc (.cells cells t)) rfl rfl rfl (by simp) ns hold (fun g hg _ => hkeep g hg) hf hgl hown (List.nodup_cons.2 ⟨fun q => Nat.lt_irrefl _ (hlt _ q), hnd⟩) (fun g hg => by
    rcases List.mem_cons.1 hg with rfl | q
    · exact .inr (Nat.le_refl _)
    · exact .inl (hF g q))
  exact ⟨_, hm, hlat, by rw [upd_same, pv_ghost]⟩
end Go.Proofs.YtkimeoknckohfaaDoor.R1
