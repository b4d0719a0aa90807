/- A call by a function's contract. -/
import Derived.Test.YtkimeoknckohfaaDoorR1Ext
namespace Go.Proofs.YtkimeoknckohfaaDoor.R1
variable {P : Program} {ρ : Type}

/-- What an entry of the table promises. -/
def EntryOk (P : Program) (glob : Nat → B) (k : Nat) (e : Entry) : Prop := e.ar.blocks.all (fun b => isParam b.1) = true ∧
  ∀ (v : e.ar.V) (o : e.res.V), e.f k v = some o →
  ∀ (cx : Cx) (φ : Nat → Value) (S : Nat → Prop) (w : World) (args : Array Value), cx.glob = glob → cx.w0 = w → cx.φ0 = φ → RelH cx φ S (e.ar.st glob v).h w →
    (∀ i, RelV S w φ (e.ar.st glob v).h ((e.ar.st glob v).t i) (args.getD i undef)) → args.size = e.ar.temps.length →
    Calls P e.id args w fun en w' => ∃ φ' S' val, en = .returned val ∧ RelH cx φ' S' (e.res.st glob o).h w' ∧ RelV S' w' φ' (e.res.st glob o).h (retV (retsOf e.res.temps o.1)) val

/-! ### What has no data in it -/
theorem Rep.flat {S S' : Nat → Prop} {w w' : World} : ∀ {u : U} {x : El u} {vs : List Value}, u.flat = true → Rep S w u x vs → Rep S' w' u x vs := by
  intro u
  induction u with
  | pair a b iha ihb =>
    rintro x vs hf ⟨v1, v2, e, h1, h2⟩
    simp only [U.flat, Bool.and_eq_true] at hf
    exact ⟨v1, v2, e, iha hf.1 h1, ihb hf.2 h2⟩
  | sl e ih => intro x vs hf; cases hf
  | _ => exact fun _ h => h

theorem RelC.ren {S S' : Nat → Prop} {w w' : World} {φ φ' : Nat → Value} {h h' : Nat → B} {nm : List (Nat × Nat)} (hd : ∀ {u : U} {x : El u} {vs : List Value}, Rep S w u x vs → Rep S' w' u x vs) (hS : ∀ g, S g → S' g) (hm : ∀ a vs, Mem w a vs → (vs ≠ [] → S a.block) → Mem w' a vs)
    (hn : ∀ n, (h n).live = true → (h' (renN nm n)).live = true ∧ pv (φ' (renN nm n)) = pv (φ n)) : ∀ {c : C} {v : Value}, RelC S w φ h c v → RelC S' w' φ' h' (renC nm c) v := by
  intro c
  induction c with
  | row n => rintro v ⟨hl, hv, hx⟩; exact ⟨(hn n hl).1, by rw [(hn n hl).2]; exact hv, hx⟩
  | ptr n i sz off => rintro v ⟨hl, g, hg, hv⟩; exact ⟨(hn n hl).1, g, by rw [(hn n hl).2]; exact hg, hv⟩
  | tail n i sz => rintro v ⟨hl, A, l, c, h1, h2, h3⟩; exact ⟨(hn n hl).1, A, l, c, by rw [(hn n hl).2]; exact h1, h2, h3⟩
  | slx u l => rintro v ⟨h1, h2⟩; exact ⟨hd h1, h2⟩
  | sl u l => exact fun h => hd h
  | dptr u x off => rintro v ⟨a, cs, hv, h1, h2, h3⟩; exact ⟨a, cs, hv, hd h1, hm a cs h2 h3, fun hne => hS _ (h3 hne)⟩
  | cap g c ihg ihc => rintro v ⟨f, cs, x, h1, h2, hv⟩; exact ⟨f, cs, x, ihg h1, ihc h2, hv⟩
  | mapr b n => rintro v ⟨hl, q, h1, h2, h3⟩; exact ⟨(hn n hl).1, q, h1, h2, by rw [(hn n hl).2]; exact h3⟩
  | _ => exact fun h => h

theorem RelC.renFlat {S S' : Nat → Prop} {w w' : World} {φ φ' : Nat → Value} {h h' : Nat → B} {nm : List (Nat × Nat)}
    (hn : ∀ n, (h n).live = true → (h' (renN nm n)).live = true ∧ pv (φ' (renN nm n)) = pv (φ n)) : ∀ {c : C} {v : Value}, c.flat = true → RelC S w φ h c v → RelC S' w' φ' h' (renC nm c) v := by
  intro c
  induction c with
  | row n => rintro v _ ⟨hl, hv, hx⟩; exact ⟨(hn n hl).1, by rw [(hn n hl).2]; exact hv, hx⟩
  | ptr n i sz off => rintro v _ ⟨hl, g, hg, hv⟩; exact ⟨(hn n hl).1, g, by rw [(hn n hl).2]; exact hg, hv⟩
  | tail n i sz => rintro v _ ⟨hl, A, l, c, h1, h2, h3⟩; exact ⟨(hn n hl).1, A, l, c, by rw [(hn n hl).2]; exact h1, h2, h3⟩
  | slx u l => intro v hf; cases hf
  | sl u l => intro v hf; cases hf
  | dptr u x off => intro v hf; cases hf
  | cap g c ihg ihc =>
    rintro v hf ⟨f, cs, x, h1, h2, hv⟩
    simp only [C.flat, Bool.and_eq_true] at hf
    exact ⟨f, cs, x, ihg hf.1 h1, ihc hf.2 h2, hv⟩
  | mapr b n => rintro v _ ⟨hl, q, h1, h2, h3⟩; exact ⟨(hn n hl).1, q, h1, h2, by rw [(hn n hl).2]; exact h3⟩
  | _ => exact fun _ h => h

theorem mk_flat : ∀ {k : CK} {x : k.T}, k.flat = true → (k.mk x).flat = true := by
  intro k
  induction k with
  | sl u => intro x h; cases h
  | slx u => intro x h; cases h
  | dp u => intro x h; cases h
  | lit c => intro x h; exact h
  | cap g c ihg ihc => intro x h; simp only [CK.flat, Bool.and_eq_true] at h; simp only [CK.mk, C.flat, Bool.and_eq_true]; exact ⟨ihg h.1, ihc h.2⟩
  | _ => intro x _; rfl

theorem mks_flat : ∀ {ks : List CK} {x : CKsT ks}, ks.all CK.flat = true → ∀ c ∈ CKsMk ks x, c.flat = true
  | [], _, _, c, hc => by cases hc
  | k :: ks, x, h, c, hc => by
    simp only [List.all_cons, Bool.and_eq_true] at h
    rcases List.mem_cons.1 hc with rfl | hc
    · exact mk_flat h.1
    · exact mks_flat h.2 c hc

theorem All2.map_l {α β γ : Type} {r : α → β → Prop} {r' : γ → β → Prop} {f : α → γ} : ∀ {l : List α} {m : List β}, (∀ a ∈ l, ∀ b, r a b → r' (f a) b) → All2 r l m → All2 r' (l.map f) m
  | [], [], _, _ => trivial
  | _ :: _, _ :: _, h, ha => ⟨h _ (by simp) _ ha.1, All2.map_l (fun a hm => h a (List.mem_cons_of_mem _ hm)) ha.2⟩
  | [], _ :: _, _, h => h.elim
  | _ :: _, [], _, h => h.elim

theorem RepA.flat {S S' : Nat → Prop} {w w' : World} {a : Bool} {u : U} {x : El u} {v : Value} (hf : u.flat = true) (h : RepA S w a u x v) : RepA S' w' a u x v := by
  cases a with
  | true => obtain ⟨cs, e, h⟩ := h; exact ⟨cs, e, h.flat hf⟩
  | false => exact Rep.flat hf h

/-- The memory, seen by another call. -/
theorem RelH.recx {cx cx' : Cx} {φ : Nat → Value} {S : Nat → Prop} {h : Nat → B} {w : World} (m : RelH cx φ S h w) (hg : cx'.glob = cx.glob) (hok : ∀ n g, (h n).mut = true → Bk (φ n) g → cx'.ok g) (hin : ∀ g, S g → g < cx'.w0.heap.size → cx'.S0 g ∨ cx'.own g) (hφ : ∀ n, isKept n = true → (h n).live = true → pv (φ n) = pv (cx'.φ0 n)) (hk : Keeps cx' w) : RelH cx' φ S h w := by
  refine ⟨fun n => ?_, m.apart, m.sep, hin, m.lt, m.glob, by rw [hg]; exact m.gl, hφ, hk⟩
  have hb := m.b n
  cases e : h n with
  | free => trivial
  | gone => trivial
  | row ee u l =>
    rw [e] at hb
    obtain ⟨a1, flat, a2, a3, a4⟩ := hb
    exact ⟨a1, flat, a2, a3, fun g hg => hok n g (by rw [e]; rfl) hg⟩
  | ro ee u l => rw [e] at hb; exact hb
  | glo q => rw [e] at hb; exact hb
  | box t cs =>
    rw [e] at hb
    obtain ⟨g, vals, a1, a2, a3, a4⟩ := hb
    exact ⟨g, vals, a1, a2, a3, hok n g (by rw [e]; rfl) (by rw [a1]; exact bk_pointer.2 rfl)⟩
  | own t o l =>
    rw [e] at hb
    obtain ⟨s, F, a1, a2, a3, a4⟩ := hb
    exact ⟨s, F, a1, a2, a3, fun g hg => hok n g (by rw [e]; rfl) (by unfold Bk; rw [a1.2]; exact hg)⟩
  | opn t o l i cs =>
    rw [e] at hb
    obtain ⟨s, F, v1, v2, v3, F1, F3, a1, a2, a3, a4, a5, a6, a7, a8, a9, a10, a11⟩ := hb
    exact ⟨s, F, v1, v2, v3, F1, F3, a1, a2, a3, a4, a5, a6, a7, a8, a9, a10, fun g hg => hok n g (by rw [e]; rfl) (by rw [a1]; unfold Bk; rw [pf_ghost]; exact hg)⟩
  | mp t ka va ku vu l =>
    rw [e] at hb
    obtain ⟨a1, a2, a3⟩ := hb
    refine ⟨a1, a2, ?_⟩
    rcases a3 with a3 | ⟨r0, es, clock, b1, b2, b3, b4⟩
    · exact .inl a3
    · exact .inr ⟨r0, es, clock, b1, b2, b3, hok n r0 (by rw [e]; rfl) (by rw [b1]; exact bk_map.2 rfl)⟩

/-! ### Names that come back -/
theorem goneAll_eq : ∀ (map : List (Nat × Option Nat)) (h : Nat → B) (k : Nat), (k ∈ actuals map → goneAll h map k = .gone) ∧ (k ∉ actuals map → goneAll h map k = h k)
  | [], h, k => ⟨fun hk => by simp [actuals] at hk, fun _ => rfl⟩
  | (n, none) :: map, h, k => goneAll_eq map h k
  | (n, some j) :: map, h, k => by
    simp only [goneAll, actuals]
    obtain ⟨h1, h2⟩ := goneAll_eq map (upd h j .gone) k
    refine ⟨fun hk => ?_, fun hk => ?_⟩
    · by_cases e : k ∈ actuals map
      · exact h1 e
      · rw [h2 e]
        rcases List.mem_cons.1 hk with rfl | hk
        · rw [upd_same]
        · exact absurd hk e
    · have e1 : k ≠ j := fun e => hk (by rw [e]; simp)
      have e2 : k ∉ actuals map := fun e => hk (List.mem_cons_of_mem _ e)
      rw [h2 e2, upd_ne _ _ e1]

theorem backNames_fst (map : List (Nat × Option Nat)) (dst : Nat) : ∀ (bs : List (Nat × BK)) (i : Nat), (backNames map dst bs i).map (·.1) = bs.map (·.1)
  | [], _ => rfl
  | (n, k) :: bs, i => by
    simp only [backNames]
    split <;> simp [backNames_fst map dst bs]

theorem backNames_kept (map : List (Nat × Option Nat)) (dst : Nat) : ∀ (bs : List (Nat × BK)) (i : Nat) {n m : Nat}, (n, m) ∈ backNames map dst bs i → (assoc map n = some (some m)) ∨ ∀ k, assoc map n ≠ some (some k)
  | [], _, n, m, h => by cases h
  | (j, k) :: bs, i, n, m, h => by
    simp only [backNames] at h
    split at h
    · rename_i m' e
      rcases List.mem_cons.1 h with h | h
      · injection h with h1 h2; subst h1; subst h2; exact .inl e
      · exact backNames_kept map dst bs i h
    · rename_i e
      rcases List.mem_cons.1 h with h | h
      · injection h with h1 h2; subst h1; exact .inr fun q hq => e q hq
      · exact backNames_kept map dst bs (i + 1) h

theorem freeAll_mem {h : Nat → B} {map : List (Nat × Option Nat)} : ∀ {nm : List (Nat × Nat)}, freeAll h map nm = true → ∀ {n m : Nat}, (n, m) ∈ nm → (∀ k, assoc map n ≠ some (some k)) → h m = .free ∧ isKept m = false
  | [], _, n, m, hm, _ => by cases hm
  | (i, j) :: nm, hf, n, m, hm, hno => by
    simp only [freeAll, Bool.and_eq_true] at hf
    rcases List.mem_cons.1 hm with e | hm
    · injection e with e1 e2; subst e1; subst e2
      have h1 := hf.1
      split at h1
      · rename_i q e; exact absurd e (hno q)
      · split at h1
        · rename_i e1 e2; exact ⟨e1, e2⟩
        · cases h1
    · exact freeAll_mem hf.2 hm hno

theorem putBack_eq {nm : List (Nat × Nat)} : ∀ {bs : List (Nat × BK)} (x : BKsT bs) (h : Nat → B) (k : Nat), (∀ b ∈ bs, renN nm b.1 ≠ k) → putBack nm h bs x k = h k
  | [], _, _, _, _ => rfl
  | (n, b) :: bs, x, h, k, hne => by
    simp only [putBack]
    rw [upd_ne _ _ (fun e => hne (n, b) (by simp) e.symm)]
    exact putBack_eq x.2 h k fun b hb => hne b (List.mem_cons_of_mem _ hb)

theorem putBack_at {nm : List (Nat × Nat)} (base : Nat → B) : ∀ {bs : List (Nat × BK)} (x : BKsT bs) (h : Nat → B) {n : Nat}, (assoc bs n).isSome = true → (∀ b ∈ bs, renN nm b.1 = renN nm n → b.1 = n) → putBack nm h bs x (renN nm n) = (blocksOf base bs x n).ren nm
  | [], _, _, n, hn, _ => by cases hn
  | (i, b) :: bs, x, h, n, hn, hinj => by
    simp only [putBack, blocksOf]
    by_cases e : n = i
    · subst e; rw [upd_same, upd_same]
    · rw [upd_ne _ _ e, upd_ne _ _ (fun e' => e (hinj (i, b) (by simp) e'.symm).symm)]
      have : Nat.beq i n = false := by cases ee : Nat.beq i n with
        | true => exact absurd (Nat.eq_of_beq_eq_true ee).symm e
        | false => rfl
      rw [assoc, this] at hn
      exact putBack_at base x.2 h hn fun b hb => hinj b (List.mem_cons_of_mem _ hb)

theorem ren_mut {nm : List (Nat × Nat)} (b : B) : (b.ren nm).mut = b.mut := by cases b <;> rfl
theorem ren_live {nm : List (Nat × Nat)} (b : B) : (b.ren nm).live = b.live := by cases b <;> rfl

theorem assoc_fst.{u} {α : Type u} : ∀ {l : List (Nat × α)} {n : Nat}, n ∈ l.map (·.1) ↔ (assoc l n).isSome = true
  | [], n => by simp [assoc]
  | (i, x) :: l, n => by
    simp only [List.map_cons, List.mem_cons, assoc]
    cases e : Nat.beq i n with
    | true => simp [Nat.eq_of_beq_eq_true e]
    | false =>
      have : n ≠ i := by rintro rfl; rw [Nat.beq_refl] at e; cases e
      simp [this, assoc_fst]

theorem snd_inj : ∀ {l : List (Nat × Nat)} {a b m : Nat}, distinct (l.map (·.2)) = true → (a, m) ∈ l → (b, m) ∈ l → a = b := by
  intro l
  induction l with
  | nil => intro a b m _ h; cases h
  | cons p l ih =>
    intro a b m hd h1 h2
    obtain ⟨i, j⟩ := p
    obtain ⟨d1, d2⟩ := distinct_cons hd
    rcases List.mem_cons.1 h1 with e | g1
    · rcases List.mem_cons.1 h2 with e' | g2
      · injection e with e1 _; injection e' with e2 _; exact e1.trans e2.symm
      · injection e with _ e; subst e; exact absurd (List.mem_map.2 ⟨_, g2, rfl⟩) d1
    · rcases List.mem_cons.1 h2 with e' | g2
      · injection e' with _ e; subst e; exact absurd (List.mem_map.2 ⟨_, g1, rfl⟩) d1
      · exact ih d2 g1 g2

theorem O.flat_rep {S S' : Nat → Prop} {w : World} : ∀ {o : O} {x : El o.u} {vs : List Value} {F : List Nat}, o.flat = true → RepO S w o x vs F → RepO S' w o x vs F := by
  intro o
  induction o with
  | d u => rintro x vs F hf ⟨h, e⟩; exact ⟨Rep.flat hf h, e⟩
  | p a b iha ihb =>
    rintro x vs F hf ⟨v1, v2, F1, F2, e1, e2, h1, h2⟩
    simp only [O.flat, Bool.and_eq_true] at hf
    exact ⟨v1, v2, F1, F2, e1, e2, iha hf.1 h1, ihb hf.2 h2⟩
  | s t e ih =>
    rintro l vs F hf ⟨v, e1, flat, F', hn, ho, hl, hF⟩
    exact ⟨v, e1, flat, F', hn, ho, hl.mono (Q := fun _ => True) (fun x vs F _ h => ih hf h) (fun _ _ => trivial), hF⟩

theorem blocksOf_opn (base : Nat → B) : ∀ {bs : List (Nat × BK)} (x : BKsT bs) {n : Nat}, (assoc bs n).isSome = true → ∀ t o l i cs, blocksOf base bs x n ≠ .opn t o l i cs
  | [], _, n, h, _, _, _, _, _ => by cases h
  | (i, k) :: bs, x, n, h, t, o, l, j, cs => by
    simp only [blocksOf]
    by_cases e : n = i
    · subst e
      rw [upd_same]
      cases k <;> (intro h; cases h)
    · rw [upd_ne _ _ e]
      have : Nat.beq i n = false := by cases ee : Nat.beq i n with
        | true => exact absurd (Nat.eq_of_beq_eq_true ee).symm e
        | false => rfl
      rw [assoc, this] at h; exact blocksOf_opn base x.2 h t o l j cs

theorem U.flat_rep {S S' : Nat → Prop} {w w' : World} {u : U} (hf : u.flat = true) {l : List (El u)} {flat : List Value} (h : RepL (Rep S w u) l flat) : RepL (Rep S' w' u) l flat := h.mono fun _ _ hr => Rep.flat hf hr

theorem relV_ofList {S : Nat → Prop} {w : World} {φ : Nat → Value} {h : Nat → B} {args : List V} {xs : List Value} (ha : All2 (RelV S w φ h) args xs) (i : Nat) : RelV S w φ h (ofList args i) (xs.getD i undef) := by
  unfold ofList
  cases e : args[i]? with
  | none => trivial
  | some v =>
    obtain ⟨x, hx, hr⟩ := ha.get e
    have : xs.getD i undef = x := by simp [List.getD, hx]
    rw [this]; exact hr

theorem freezeAll_kind (ns : List Nat) : ∀ (h : Nat → B) (k : Nat), freezeAll h ns k = h k ∨ freezeAll h ns k = (h k).freeze := by
  induction ns with
  | nil => intro h k; exact .inl rfl
  | cons n r ih =>
    intro h k
    rw [freezeAll]
    rcases ih (upd h n (h n).freeze) k with e | e
    · rw [e]
      by_cases q : k = n
      · subst q; rw [upd_same]; exact .inr rfl
      · rw [upd_ne _ _ q]; exact .inl rfl
    · rw [e]
      by_cases q : k = n
      · subst q; rw [upd_same]; refine .inr ?_; cases h k <;> rfl
      · rw [upd_ne _ _ q]; exact .inr rfl

theorem freezeAll_out (ns : List Nat) : ∀ (h : Nat → B) (k : Nat), k ∉ ns → freezeAll h ns k = h k := by
  induction ns with
  | nil => intro h k _; rfl
  | cons n r ih =>
    intro h k hk
    rw [freezeAll, ih _ _ (fun h => hk (List.mem_cons_of_mem _ h)), upd_ne _ _ (fun e => hk (by rw [e]; simp))]

theorem freezeAll_mut_out (ns : List Nat) : ∀ (h : Nat → B), ∀ k ∈ ns, (freezeAll h ns k).mut = false := by
  induction ns with
  | nil => intro h k hk; cases hk
  | cons n r ih =>
    intro h k hk
    rw [freezeAll]
    by_cases e : k ∈ r
    · exact ih _ k e
    · have hkn : k = n := by rcases List.mem_cons.1 hk with h | h; exact h; exact absurd h e
      subst hkn
      rcases freezeAll_kind r (upd h k (h k).freeze) k with q | q
      · rw [q, upd_same]; exact freeze_not
      · rw [q]; exact freeze_not

theorem blocksOf_flat (base : Nat → B) : ∀ {bs : List (Nat × BK)} (x : BKsT bs), bs.all (fun p => p.2.flat) = true → ∀ {n : Nat}, (assoc bs n).isSome = true → (∀ e u l, blocksOf base bs x n = .row e u l → u.flat = true) ∧ (∀ t cs, blocksOf base bs x n = .box t cs → ∀ c ∈ cs, c.flat = true) ∧ (∀ t o l, blocksOf base bs x n = .own t o l → o.flat = true)
  | [], _, _, n, h => by cases h
  | (i, k) :: bs, x, hf, n, h => by
    simp only [List.all_cons, Bool.and_eq_true] at hf
    simp only [blocksOf]
    by_cases e : n = i
    · subst e
      rw [upd_same]
      cases k with
      | row e' u' => exact ⟨fun e u l h => (by injection h with h1 h2 h3; subst h2; exact hf.1), fun t cs h => (by cases h), fun t o l h => (by cases h)⟩
      | box t' ks => exact ⟨fun e u l h => (by cases h), fun t cs h c hc => (by injection h with h1 h2; subst h2; exact mks_flat hf.1 c hc), fun t o l h => (by cases h)⟩
      | own t' o' => exact ⟨fun e u l h => (by cases h), fun t cs h => (by cases h), fun t o l h => (by injection h with h1 h2 h3; subst h2; exact hf.1)⟩
      | mp => exact ⟨fun e u l h => (by cases h), fun t cs h => (by cases h), fun t o l h => (by cases h)⟩
    · rw [upd_ne _ _ e]
      have : Nat.beq i n = false := by cases ee : Nat.beq i n with
        | true => exact absurd (Nat.eq_of_beq_eq_true ee).symm e
        | false => rfl
      rw [assoc, this] at h; exact blocksOf_flat base x.2 hf.2 h

theorem rets_flat : ∀ {ts : List (Nat × VK)} {x : VKsT ts}, ts.all (fun p => p.2.flat) = true → ∀ y ∈ retsOf ts x, ∀ c ∈ y.cells, c.flat = true
  | [], _, _, y, hy => by cases hy
  | (i, k) :: ts, x, hf, y, hy => by
    simp only [List.all_cons, Bool.and_eq_true] at hf
    rcases List.mem_cons.1 hy with rfl | hy
    · cases k with
      | c k => intro c hc; simp [VK.mkW, W1.cells] at hc; subst hc; exact mk_flat hf.1
      | agg ks => intro c hc; exact mks_flat hf.1 c hc
    · exact rets_flat hf.2 y hy

theorem relV_retV {S S' : Nat → Prop} {w w' : World} {φ φ' : Nat → Value} {h h' : Nat → B} {f : W1 → W1} {ws : List W1} {v : Value} (hf : ∀ y ∈ ws, ∀ v, RelW S w φ h y v → RelW S' w' φ' h' (f y) v) (hr : RelV S w φ h (retV ws) v) : RelV S' w' φ' h' (retV (ws.map f)) v := by
  cases ws with
  | nil => obtain ⟨vs, hv, ha⟩ := hr; exact ⟨vs, hv, All2.map_l hf ha⟩
  | cons y ws => cases ws with
    | nil => exact hf y (by simp) v hr
    | cons z ws => obtain ⟨vs, hv, ha⟩ := hr; exact ⟨vs, hv, All2.map_l hf ha⟩

open Classical in
theorem callEnt_sound {cx : Cx} (hcx : ∀ n, isGlob n = false → cx.glob n = .free) {φ : Nat → Value} {S : Nat → Prop} {w : World} {st : St} (m : RelH cx φ S st.h w) {args : List V} {xs : List Value} (ha : All2 (RelV S w φ st.h) args xs)
    {k dst : Nat} {e : Entry} (he : EntryOk P cx.glob k e) {κ : V → St → Option ρ} {r0 : ρ} {other : Option ρ} (hother : other = some r0 → Calls P e.id xs.toArray w fun en w' => ∃ vv st' φ' S' val, κ vv st' = some r0 ∧ en = .returned val ∧ RelH cx φ' S' st'.h w' ∧ st'.t = st.t ∧ Later S S' w w' φ φ' st.h st'.h ∧ RelV S' w' φ' st'.h vv val)
    (h : callEnt k st dst args e κ other = some r0) :
    Calls P e.id xs.toArray w fun en w' => ∃ vv st' φ' S' val, κ vv st' = some r0 ∧ en = .returned val ∧ RelH cx φ' S' st'.h w' ∧ st'.t = st.t ∧ Later S S' w w' φ φ' st.h st'.h ∧ RelV S' w' φ' st'.h vv val := by
  unfold callEnt at h
  split at h
  case h_2 => exact hother h
  rename_i v r hext hlen
  have hlen := Nat.eq_of_beq_eq_true hlen
  obtain ⟨o, hfo, hk⟩ := Option.bind_eq_some_iff.1 h
  obtain ⟨mE, tE, hnm, hmutE⟩ := ext_sound hcx (st := ⟨ofList args, st.h⟩) m (tv := fun i => xs.getD i undef) (fun i => relV_ofList ha i) hext (extφ φ r) (fun _ _ _ => rfl)
  -- the callee's side
  let cx' : Cx := ⟨cx.glob, w, fun g => ∃ n, (assoc e.ar.blocks n).isSome = true ∧ Bk (extφ φ r n) g, extS S φ st.h r, extφ φ r⟩
  have ownM : ∀ g, cx'.own g → ∃ j, j ∈ actuals r.map ∧ (st.h j).mut = true ∧ Bk (φ j) g := by
    rintro g ⟨n, hn, hg⟩
    obtain ⟨m', hm', hmm⟩ := hmutE n hn
    cases m' with
    | none => rw [show extφ φ r n = .slice none 0 0 by simp [extφ, assoc_of_mem hnm.d1 hm']] at hg; cases hg
    | some j => rw [show extφ φ r n = φ j by simp [extφ, assoc_of_mem hnm.d1 hm']] at hg; exact ⟨j, mem_actuals.2 ⟨n, hm'⟩, hmm j rfl, hg⟩
  have blocksMut : ∀ n, ((e.ar.st cx.glob v).h n).mut = true → (assoc e.ar.blocks n).isSome = true := by
    intro n hm
    cases ea : assoc e.ar.blocks n with
    | some k => rfl
    | none =>
      have e3 : (e.ar.st cx.glob v).h n = cx.glob n := blocksOf_none _ _ ea
      have hg := mE.gl n
      cases hgl : isGlob n with
      | true => rw [(hg hgl).2] at hm; cases hm
      | false => rw [e3, hcx n hgl] at hm; cases hm
  have mC : RelH cx' (extφ φ r) (extS S φ st.h r) (e.ar.st cx.glob v).h w :=
    mE.recx rfl (fun n g hm hg => .inr ⟨n, blocksMut n hm, hg⟩) (fun g hg _ => .inl hg) (fun _ _ _ => rfl) ⟨rfl, rfl, rfl, Nat.le_refl _, fun _ _ _ => rfl⟩
  have hargs : ∀ i, RelV (extS S φ st.h r) w (extφ φ r) (e.ar.st cx.glob v).h ((e.ar.st cx.glob v).t i) (xs.toArray.getD i undef) := by
    intro i
    have := tE i
    have e1 : xs.toArray.getD i undef = xs.getD i undef := by simp [List.getD]
    rw [e1]; exact this
  refine (he.2 v o hfo cx' (extφ φ r) (extS S φ st.h r) w xs.toArray rfl rfl rfl mC hargs (by rw [List.size_toArray, ← ha.length]; exact hlen)).mono ?_
  rintro en w' ⟨φ', S', val, rfl, mR, hval⟩
  split at hk
  case h_2 => cases hk
  rename_i hfree hdist
  generalize hnmE : backNames r.map dst e.res.blocks 0 = nm at hk hfree hdist
  have hfst : nm.map (·.1) = e.res.blocks.map (·.1) := by rw [← hnmE]; exact backNames_fst _ _ _ _
  -- the caller's memory, ahead of what comes back
  obtain ⟨h1, S1, hh1, hS1, m1, hlat1⟩ : ∃ h1 S1, h1 = (match e.res.flat with | true => st.h | false => freezeAll st.h r.frz) ∧ (∀ g, S g → S1 g) ∧ RelH cx φ S1 h1 w ∧ (∀ j, (h1 j).live = (st.h j).live) ∧ (∀ j, (h1 j).mut = true → (st.h j).mut = true) ∧
      (e.res.flat = false → ∀ j ∈ r.frz, (h1 j).mut = false) := by
    cases hf : e.res.flat with
    | true => exact ⟨_, S, rfl, fun _ h => h, m, fun _ => rfl, fun _ h => h, fun h => by cases h⟩
    | false =>
      obtain ⟨S1, a1, a2, a3⟩ := m.freezeAll r.frz
      exact ⟨_, S1, rfl, a1, a2, fun j => freezeAll_live _ _ _, fun j => freezeAll_mut _ _ _, fun _ j hj => freezeAll_mut_out _ _ j hj⟩
  obtain ⟨hlat1, hmut1, hrow1⟩ := hlat1
  -- names
  have nmem : ∀ n, (assoc e.res.blocks n).isSome = true → (n, renN nm n) ∈ nm := by
    intro n hn
    have : (assoc nm n).isSome = true := assoc_fst.1 (by rw [hfst]; exact assoc_fst.2 hn)
    obtain ⟨q, hq⟩ := Option.isSome_iff_exists.1 this
    rw [show renN nm n = q by simp [renN, hq]]; exact assoc_mem hq
  have ninj : ∀ a b, (assoc e.res.blocks a).isSome = true → (assoc e.res.blocks b).isSome = true → renN nm a = renN nm b → a = b := by
    intro a b ha hb hab
    have h1 := nmem a ha
    rw [hab] at h1
    exact snd_inj hdist h1 (nmem b hb)
  have ncase : ∀ n, (assoc e.res.blocks n).isSome = true → (∃ q, (n, some q) ∈ r.map ∧ renN nm n = q ∧ (st.h q).mut = true ∧ pv (φ' n) = pv (φ q)) ∨ ((∀ q, assoc r.map n ≠ some (some q)) ∧ st.h (renN nm n) = .free ∧ isKept (renN nm n) = false) := by
    intro n hn
    have hm := nmem n hn
    rw [← hnmE] at hm
    rcases backNames_kept _ _ _ _ hm with hq | hq
    · rw [hnmE] at hq
      have hmem := assoc_mem hq
      have hab := hnm.blocks _ hmem
      obtain ⟨m', hm', hmm⟩ := hmutE n hab
      have : m' = some (renN nm n) := by
        have h1 := assoc_of_mem hnm.d1 hm'
        rw [hq] at h1; exact (Option.some.inj h1).symm
      subst this
      refine .inl ⟨renN nm n, hmem, rfl, hmm _ rfl, ?_⟩
      have hpar : isParam n = true := by
        obtain ⟨kk, hkk⟩ := Option.isSome_iff_exists.1 hab
        exact (List.all_eq_true.1 he.1) _ (assoc_mem hkk)
      have := mR.kp n (by simp [isKept, hpar]) (live_of_mut (blocksOf_mut _ _ hn))
      rw [this]; show pv (extφ φ r n) = _; simp [extφ, hq]
    · rw [hnmE] at hm
      exact .inr ⟨hq, freeAll_mem hfree hm hq⟩
  have actM : ∀ j ∈ actuals r.map, (st.h j).mut = true := by
    intro j hj
    obtain ⟨n, hn⟩ := mem_actuals.1 hj
    obtain ⟨m', hm', hmm⟩ := hmutE n (hnm.blocks _ hn)
    have h1 := assoc_of_mem hnm.d1 hm'
    have h2 := assoc_of_mem hnm.d1 hn
    rw [h1] at h2
    exact hmm j (Option.some.inj h2)
  have act1 : ∀ j ∈ actuals r.map, h1 j = st.h j := by
    intro j hj
    rw [hh1]
    cases e.res.flat with
    | true => rfl
    | false => exact freezeAll_out _ _ _ fun h => hnm.frz j h hj
  let φ2 : Nat → Value := fun j => if hx : ∃ n, (assoc e.res.blocks n).isSome = true ∧ renN nm n = j then φ' hx.choose else φ j
  have φ2at : ∀ n, (assoc e.res.blocks n).isSome = true → φ2 (renN nm n) = φ' n := by
    intro n hn
    have hx : ∃ a, (assoc e.res.blocks a).isSome = true ∧ renN nm a = renN nm n := ⟨n, hn, rfl⟩
    show (if hx : ∃ a, (assoc e.res.blocks a).isSome = true ∧ renN nm a = renN nm n then φ' hx.choose else φ (renN nm n)) = φ' n
    rw [dif_pos hx]
    rw [ninj _ _ hx.choose_spec.1 hn hx.choose_spec.2]
  have φ2keep : ∀ j, (st.h j).live = true → j ∉ actuals r.map → φ2 j = φ j := by
    intro j hj hja
    show (if hx : ∃ a, (assoc e.res.blocks a).isSome = true ∧ renN nm a = j then φ' hx.choose else φ j) = φ j
    rw [dif_neg]
    rintro ⟨n, hn, rfl⟩
    rcases ncase n hn with ⟨q, hq1, hq2, _⟩ | ⟨_, hq2, _⟩
    · exact hja (mem_actuals.2 ⟨n, by rw [hq2]; exact hq1⟩)
    · rw [hq2] at hj; cases hj
  have φ2old : ∀ j, (st.h j).live = true → pv (φ2 j) = pv (φ j) := by
    intro j hj
    by_cases hx : ∃ a, (assoc e.res.blocks a).isSome = true ∧ renN nm a = j
    · obtain ⟨n, hn, rfl⟩ := hx
      rw [φ2at n hn]
      rcases ncase n hn with ⟨q, _, hq2, _, hq4⟩ | ⟨_, hq2, _⟩
      · rw [hq2]; exact hq4
      · rw [hq2] at hj; cases hj
    · show pv (if hx : ∃ a, (assoc e.res.blocks a).isSome = true ∧ renN nm a = j then φ' hx.choose else φ j) = pv (φ j)
      rw [dif_neg hx]
  generalize hh3 : putBack nm (goneAll (match e.res.flat with | true => st.h | false => freezeAll st.h r.frz) r.map) e.res.blocks o.2 = h3 at hk
  rw [← hh1] at hh3
  have memBs : ∀ b ∈ e.res.blocks, (assoc e.res.blocks b.1).isSome = true := fun b hb => assoc_fst.1 (List.mem_map.2 ⟨b, hb, rfl⟩)
  have h3at : ∀ n, (assoc e.res.blocks n).isSome = true → h3 (renN nm n) = ((e.res.st cx.glob o).h n).ren nm := by
    intro n hn
    rw [← hh3]
    exact putBack_at cx.glob o.2 _ hn fun b hb hbn => ninj _ _ (memBs b hb) hn hbn
  have h3out : ∀ j, (∀ n, (assoc e.res.blocks n).isSome = true → renN nm n ≠ j) → h3 j = goneAll h1 r.map j := by
    intro j hj
    rw [← hh3]
    exact putBack_eq _ _ _ fun b hb => hj _ (memBs b hb)
  have resMut : ∀ n, (assoc e.res.blocks n).isSome = true → ((e.res.st cx.glob o).h n).mut = true := fun n hn => blocksOf_mut _ _ hn
  have resOut : ∀ n, assoc e.res.blocks n = none → (e.res.st cx.glob o).h n = cx.glob n := fun n hn => blocksOf_none _ _ hn
  have resMut' : ∀ n, ((e.res.st cx.glob o).h n).mut = true → (assoc e.res.blocks n).isSome = true := by
    intro n hm
    cases ea : assoc e.res.blocks n with
    | some k => rfl
    | none =>
      rw [resOut n ea] at hm
      cases hgl : isGlob n with
      | true => have := mR.gl n hgl; rw [resOut n ea] at this; rw [this.2] at hm; cases hm
      | false => rw [hcx n hgl] at hm; cases hm
  have globOut : ∀ j, isGlob j = true → ∀ n, (assoc e.res.blocks n).isSome = true → renN nm n ≠ j := by
    rintro j hj n hn rfl
    rcases ncase n hn with ⟨q, _, hq2, hq3, _⟩ | ⟨_, _, hq3⟩
    · have := m.gl _ hj; rw [hq2, hq3] at this; cases this.2
    · rw [kept_glob hq3] at hj; cases hj
  have globAct : ∀ j, isGlob j = true → j ∉ actuals r.map := by
    intro j hj hm
    have := m.gl j hj; rw [actM j hm] at this; cases this.2
  have glob3 : ∀ j, isGlob j = true → h3 j = h1 j := by
    intro j hj
    rw [h3out j (globOut j hj)]
    exact (goneAll_eq r.map h1 j).2 (globAct j hj)
  have live3 : ∀ j, (st.h j).live = true → (h3 j).live = true := by
    intro j hj
    by_cases hit : ∃ n, (assoc e.res.blocks n).isSome = true ∧ renN nm n = j
    · obtain ⟨n, hn, rfl⟩ := hit
      rw [h3at n hn, ren_live]; exact live_of_mut (resMut n hn)
    · rw [h3out j fun n hn hj => hit ⟨n, hn, hj⟩]
      by_cases ha : j ∈ actuals r.map
      · rw [(goneAll_eq r.map h1 j).1 ha]; rfl
      · rw [(goneAll_eq r.map h1 j).2 ha, hlat1]; exact hj
  let S2 : Nat → Prop := fun g => S1 g ∨ e.res.flat = false ∧ S' g
  have names : ∀ n, ((e.res.st cx.glob o).h n).live = true → (h3 (renN nm n)).live = true ∧ pv (φ2 (renN nm n)) = pv (φ' n) := by
    intro n hl
    cases ea : assoc e.res.blocks n with
    | some k =>
      have hn : (assoc e.res.blocks n).isSome = true := by rw [ea]; rfl
      exact ⟨by rw [h3at n hn, ren_live]; exact hl, by rw [φ2at n hn]⟩
    | none =>
      rw [resOut n ea] at hl
      cases hgl : isGlob n with
      | false => rw [hcx n hgl] at hl; cases hl
      | true =>
        have hr : renN nm n = n := by
          have : assoc nm n = none := by
            cases eb : assoc nm n with
            | none => rfl
            | some q =>
              have : n ∈ nm.map (·.1) := assoc_fst.2 (by rw [eb]; rfl)
              rw [hfst] at this
              have := assoc_fst.1 this
              rw [ea] at this; cases this
          simp [renN, this]
        rw [hr]
        have hst : (st.h n).live = true := by rw [(m.gl n hgl).1]; exact hl
        refine ⟨live3 n hst, ?_⟩
        have hkg : pv (φ' n) = pv (extφ φ r n) := mR.kp n (by simp [isKept, hgl]) (by rw [resOut n ea]; exact hl)
        rw [φ2old n hst, hkg]
        have : assoc r.map n = none := by
          cases eb : assoc r.map n with
          | none => rfl
          | some q => have := hnm.glob n (hnm.blocks _ (assoc_mem eb)); rw [this] at hgl; cases hgl
        simp [extφ, this]
  have relC2 : ∀ {c : C} {x : Value}, (e.res.flat = false ∨ c.flat = true) → RelC S' w' φ' (e.res.st cx.glob o).h c x → RelC S2 w' φ2 h3 (renC nm c) x := by
    intro c x hf hr
    rcases hf with hf | hf
    · exact RelC.ren (fun h => Rep.mono (fun g hg => .inr ⟨hf, hg⟩) (fun _ _ => rfl) h) (fun g hg => .inr ⟨hf, hg⟩) (fun a vs hm _ => hm) names hr
    · exact RelC.renFlat names hf hr
  have flatTB : e.res.flat = true → (e.res.temps.all (fun p => p.2.flat) = true ∧ e.res.blocks.all (fun p => p.2.flat) = true) := by
    intro h; simpa only [Spec.flat, Bool.and_eq_true] using h
  -- what is the callee's, is not another's
  have okc : ∀ g, cx'.ok g → w.heap.size ≤ g ∨ ∃ j, j ∈ actuals r.map ∧ (st.h j).mut = true ∧ Bk (φ j) g := fun g hg => hg.imp id (ownM g)
  have okUp : ∀ g, cx'.ok g → cx.ok g := by
    intro g hg
    rcases okc g hg with h | ⟨j, _, hj2, hj3⟩
    · exact .inl (Nat.le_trans m.keep.size h)
    · exact mut_ok hj2 (m.b j) hj3
  have notOwn1 : ∀ g, S1 g → ¬ cx'.own g := by
    intro g hg ho
    obtain ⟨j, hj1, hj2, hj3⟩ := ownM g ho
    exact m1.sep j g (by rw [act1 j hj1]; exact hj2) hj3 hg
  have keep1 : ∀ g, S1 g → w'.heap[g]? = w.heap[g]? := fun g hg => mR.keep.block g (m1.lt g hg) (notOwn1 g hg)
  have otherBlk : ∀ j g, (st.h j).mut = true → j ∉ actuals r.map → Bk (φ j) g → g < w.heap.size ∧ ¬ cx'.own g := by
    intro j g hj hja hg
    refine ⟨m.blk_lt hj hg, fun ho => ?_⟩
    obtain ⟨q, hq1, hq2, hq3⟩ := ownM g ho
    exact m.apart j q g (fun e => hja (e ▸ hq1)) hj hq2 hg hq3
  have lat : Later S S2 w w' φ φ2 st.h h3 := ⟨fun g hg => .inl (hS1 g hg), fun g hg => keep1 g (hS1 g hg), fun n hn => ⟨live3 n hn, φ2old n hn⟩⟩
  -- a name of the new state that may be written
  have mut3 : ∀ j, (h3 j).mut = true → (∃ n, (assoc e.res.blocks n).isSome = true ∧ renN nm n = j) ∨ ((h1 j).mut = true ∧ (st.h j).mut = true ∧ j ∉ actuals r.map) := by
    intro j hj
    by_cases hit : ∃ n, (assoc e.res.blocks n).isSome = true ∧ renN nm n = j
    · exact .inl hit
    · rw [h3out j fun n hn hj => hit ⟨n, hn, hj⟩] at hj
      by_cases ha : j ∈ actuals r.map
      · rw [(goneAll_eq r.map h1 j).1 ha] at hj; cases hj
      · rw [(goneAll_eq r.map h1 j).2 ha] at hj; exact .inr ⟨hj, hmut1 j hj, ha⟩
  have okAt : ∀ n g, (assoc e.res.blocks n).isSome = true → Bk (φ' n) g → cx'.ok g := fun n g hn hg => mut_ok (resMut n hn) (mR.b n) hg
  have m3 : RelH cx φ2 S2 h3 w' := by
    refine ⟨fun j => ?_, fun j k g hjk hj hkk hgj hgk => ?_, fun j g hj hg hS => ?_, fun g hS hlt => ?_, fun g hS => ?_, fun g hgl hl => ?_, fun j hgl => ?_, fun j hkp hl => ?_, ?_⟩
    · by_cases hit : ∃ n, (assoc e.res.blocks n).isSome = true ∧ renN nm n = j
      · obtain ⟨n, hn, rfl⟩ := hit
        rw [h3at n hn, φ2at n hn]
        have hb := mR.b n
        have hm := resMut n hn
        cases eb : (e.res.st cx.glob o).h n with
        | row e' u l =>
          rw [eb] at hb
          obtain ⟨a1, flat, a2, a3, a4⟩ := hb
          refine ⟨a1, flat, a2, ?_, fun g hg => okUp g (a4 g hg)⟩
          cases hf : e.res.flat with
          | false => exact a3.mono fun _ _ hr => Rep.mono (fun g hg => .inr ⟨hf, hg⟩) (fun _ _ => rfl) hr
          | true => exact U.flat_rep ((blocksOf_flat cx.glob o.2 (flatTB hf).2 hn).1 _ _ _ eb) a3
        | box t cs =>
          rw [eb] at hb
          obtain ⟨g, vals, a1, a2, a3, a4⟩ := hb
          refine ⟨g, vals, a1, a2, All2.map_l (fun c hc x hx => relC2 ?_ hx) a3, okUp g a4⟩
          cases hf : e.res.flat with
          | false => exact .inl rfl
          | true => exact .inr ((blocksOf_flat cx.glob o.2 (flatTB hf).2 hn).2.1 _ _ eb c hc)
        | own t oo l =>
          rw [eb] at hb
          obtain ⟨s, F, a1, a2, a3, a4⟩ := hb
          refine ⟨s, F, a1, ?_, a3, fun g hg => okUp g (a4 g hg)⟩
          cases hf : e.res.flat with
          | false => exact a2.mono (fun x vs F hq h => RepO.mono (fun g hg => .inr ⟨hf, hg⟩) (fun _ _ => rfl) hq h) (fun _ _ => rfl)
          | true =>
            have hof := (blocksOf_flat cx.glob o.2 (flatTB hf).2 hn).2.2 _ _ _ eb
            obtain ⟨flat, F', hn', ho, hl, hF⟩ := a2
            exact ⟨flat, F', hn', ho, hl.mono (Q := fun _ => True) (fun x vs F _ h => O.flat_rep hof h) (fun _ _ => trivial), hF⟩
        | mp t ka va ku vu l =>
          rw [eb] at hb
          obtain ⟨a1, a2, a3⟩ := hb
          refine ⟨a1, a2, ?_⟩
          rcases a3 with a3 | ⟨r0, es, clock, b1, b2, b3, b4⟩
          · exact .inl a3
          · exact .inr ⟨r0, es, clock, b1, b2, b3.mono fun _ _ h => ⟨h.1.flat a1, h.2.flat a2⟩, okUp r0 b4⟩
        | opn t oo l i cs => exact absurd eb (blocksOf_opn cx.glob o.2 hn t oo l i cs)
        | free => rw [eb] at hm; cases hm
        | gone => rw [eb] at hm; cases hm
        | ro => rw [eb] at hm; cases hm
        | glo => rw [eb] at hm; cases hm
      · rw [h3out j fun n hn hj => hit ⟨n, hn, hj⟩]
        by_cases ha : j ∈ actuals r.map
        · rw [(goneAll_eq r.map h1 j).1 ha]; trivial
        · rw [(goneAll_eq r.map h1 j).2 ha]
          cases hl : (h1 j).live with
          | false => cases eb : h1 j <;> rw [eb] at hl <;> first | trivial | cases hl
          | true =>
            rw [φ2keep j (by rw [← hlat1]; exact hl) ha]
            refine RelB.mono (fun g hg => .inl hg) keep1 (fun n hn => ?_) (fun hm g hg => ?_) (m1.b j)
            · rw [hlat1] at hn; exact ⟨live3 n hn, φ2old n hn⟩
            · obtain ⟨q1, q2⟩ := otherBlk j g (hmut1 j hm) ha hg
              exact mR.keep.block g q1 q2
    · rcases mut3 j hj with ⟨a, ha, rfl⟩ | ⟨j1, j2, j3⟩
      · rw [φ2at a ha] at hgj
        rcases mut3 k hkk with ⟨b, hb, rfl⟩ | ⟨k1, k2, k3⟩
        · rw [φ2at b hb] at hgk
          exact mR.apart a b g (fun e => hjk (by rw [e])) (resMut a ha) (resMut b hb) hgj hgk
        · rw [φ2keep k (live_of_mut k2) k3] at hgk
          obtain ⟨q1, q2⟩ := otherBlk k g k2 k3 hgk
          rcases okAt a g ha hgj with h | h
          · exact absurd h (Nat.not_le.2 q1)
          · exact q2 h
      · rw [φ2keep j (live_of_mut j2) j3] at hgj
        obtain ⟨q1, q2⟩ := otherBlk j g j2 j3 hgj
        rcases mut3 k hkk with ⟨b, hb, rfl⟩ | ⟨k1, k2, k3⟩
        · rw [φ2at b hb] at hgk
          rcases okAt b g hb hgk with h | h
          · exact absurd h (Nat.not_le.2 q1)
          · exact q2 h
        · rw [φ2keep k (live_of_mut k2) k3] at hgk
          exact m.apart j k g hjk j2 k2 hgj hgk
    · rcases mut3 j hj with ⟨a, ha, rfl⟩ | ⟨j1, j2, j3⟩
      · rw [φ2at a ha] at hg
        rcases hS with hS | ⟨_, hS⟩
        · rcases okAt a g ha hg with h | h
          · exact absurd (m1.lt g hS) (Nat.not_lt.2 h)
          · exact notOwn1 g hS h
        · exact mR.sep a g (resMut a ha) hg hS
      · rw [φ2keep j (live_of_mut j2) j3] at hg
        obtain ⟨q1, q2⟩ := otherBlk j g j2 j3 hg
        rcases hS with hS | ⟨hf, hS⟩
        · exact m1.sep j g j1 hg hS
        · rcases mR.inS g hS q1 with h | h
          · rcases h with h | ⟨k', hk1, hk2, hk3⟩
            · exact m.sep j g j2 hg h
            · by_cases ejk : j = k'
              · subst ejk
                have hr := hrow1 hf j hk2
                have hk' : h1 j = st.h j ∨ h1 j = (st.h j).freeze := by rw [hh1, hf]; exact freezeAll_kind _ _ _
                rcases hk' with q | q
                · rw [q, hk1] at hr; cases hr
                · rw [q] at j1; cases es : st.h j <;> rw [es] at j1 hk1 <;> first | (cases j1; done) | cases hk1
              · exact m.apart j k' g ejk j2 (by cases es : st.h k' <;> rw [es] at hk1 <;> first | rfl | cases hk1) hg hk3
          · exact q2 h
    · rcases hS with hS | ⟨_, hS⟩
      · exact m1.inS g hS hlt
      · rcases mR.inS g hS (Nat.lt_of_lt_of_le hlt m.keep.size) with h | h
        · rcases h with h | ⟨k', hk1, _, hk3⟩
          · exact m.inS g h hlt
          · rcases mut_ok (by cases es : st.h k' <;> rw [es] at hk1 <;> first | rfl | cases hk1) (m.b k') hk3 with h | h
            · omega
            · exact .inr h
        · obtain ⟨q, _, hq2, hq3⟩ := ownM g h
          rcases mut_ok hq2 (m.b q) hq3 with h | h
          · omega
          · exact .inr h
    · rcases hS with hS | ⟨_, hS⟩
      · exact Nat.lt_of_lt_of_le (m1.lt g hS) mR.keep.size
      · exact mR.lt g hS
    · have hst : (st.h (gname g)).live = true := by rw [← hlat1, ← glob3 _ hgl]; exact hl
      rw [φ2old _ hst]; exact m.glob g hgl hst
    · rw [glob3 j hgl]; exact m1.gl j hgl
    · cases hst : (st.h j).live with
      | true => rw [φ2old j hst]; exact m.kp j hkp hst
      | false =>
        exfalso
        by_cases hit : ∃ n, (assoc e.res.blocks n).isSome = true ∧ renN nm n = j
        · obtain ⟨n, hn, rfl⟩ := hit
          rcases ncase n hn with ⟨q, _, hq2, hq3, _⟩ | ⟨_, _, hq3⟩
          · rw [hq2, live_of_mut hq3] at hst; cases hst
          · rw [hq3] at hkp; cases hkp
        · rw [h3out j fun n hn hj => hit ⟨n, hn, hj⟩] at hl
          have ha : j ∉ actuals r.map := fun ha => by rw [live_of_mut (actM j ha)] at hst; cases hst
          rw [(goneAll_eq r.map h1 j).2 ha, hlat1, hst] at hl; cases hl
    · exact m.keep.step mR.keep.os mR.keep.tape mR.keep.output mR.keep.size fun g hg hno => mR.keep.block g hg fun ho => hno (okUp g (.inr ho))
  refine ⟨_, _, φ2, S2, val, hk, rfl, m3, rfl, lat, relV_retV (fun y hy x hx => ?_) hval⟩
  have hyf : e.res.flat = false ∨ ∀ c ∈ y.cells, c.flat = true := by
    cases hf : e.res.flat with
    | false => exact .inl rfl
    | true => exact .inr (rets_flat (flatTB hf).1 y hy)
  cases y with
  | c c => exact relC2 (hyf.imp id fun h => h c (by simp [W1.cells])) hx
  | agg cs =>
    obtain ⟨vs, hv, ha⟩ := hx
    exact ⟨vs, hv, All2.map_l (fun c hc x hx => relC2 (hyf.imp id fun h => h c hc) hx) ha⟩
end Go.Proofs.YtkimeoknckohfaaDoor.R1
