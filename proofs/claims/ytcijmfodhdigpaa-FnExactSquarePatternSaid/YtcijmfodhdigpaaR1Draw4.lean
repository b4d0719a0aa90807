/- A region whose order is drawn, whole. -/
import Derived.Test.YtcijmfodhdigpaaR1Draw3
namespace Go.Proofs.Ytcijmfodhdigpaa.R1
variable {P : Program} {ρ : Type}

section
variable {cfg : Cfg} {ops : Array Oper} {bs : List (List Nat)} {s : St} {v v' : Nat → V} {hv hv' : Nat → Nat → B} {cx : Cx} {nt : Nat}

theorem tX_congr (R : Reg ops.toList bs) {X : Nat → Prop} (h : ∀ j, X j → v j = v' j) : tX ops.toList s v X = tX ops.toList s v' X := by
  funext n
  by_cases e : ∃ j, X j ∧ dstAt ops.toList j = some n
  · obtain ⟨j, hj, hd⟩ := e
    rw [tX_of R hj hd, tX_of R hj hd, h j hj]
  · rw [tX_not e, tX_not e]

theorem hX_congr (R : Reg ops.toList bs) {X : Nat → Prop} (hD : Dsts ops.toList X) (h : ∀ j, X j → hv j = hv' j) : hX ops.toList s hv X = hX ops.toList s hv' X := by
  funext n
  by_cases e : ∃ j, X j ∧ ownsAt ops.toList j n
  · obtain ⟨j, hj, hd⟩ := e
    rw [hX_of R hD hj hd, hX_of R hD hj hd, h j hj]
  · rw [hX_not e, hX_not e]

theorem SegAt.congr {k i : Nat} {o : Oper} {d : Nat} (R : Reg ops.toList bs) (hD : Dsts ops.toList fun j => k ≤ j ∧ j < i) (h : ∀ j, j < i → v j = v' j ∧ hv j = hv' j) (e : v i = v' i ∧ hv i = hv' i) (hs : SegAt cfg ops.toList bs k s v hv i o d) : SegAt cfg ops.toList bs k s v' hv' i o d := by
  have hlt : ∀ j, befK bs k i j → j < i := fun j hj => bef_lt R.good R.back _ _ hj.2
  have e1 : tX ops.toList s v (befK bs k i) = tX ops.toList s v' (befK bs k i) := tX_congr R fun j hj => (h j (hlt j hj)).1
  have e2 : hX ops.toList s hv (befK bs k i) = hX ops.toList s hv' (befK bs k i) := hX_congr R (hD.sub fun j hj => ⟨hj.1, hlt j hj⟩) fun j hj => (h j (hlt j hj)).2
  have e3 : Rst ops.toList bs k s v hv i = Rst ops.toList bs k s v' hv' i := by unfold Rst; rw [e1, e2]
  refine ⟨hs.op, hs.dst, hs.lt, hs.fresh, ?_⟩
  rcases hs.how with ⟨h1, st', h2, h3, h4⟩ | ⟨h1, h2, h3⟩
  · refine .inl ⟨?_, st', by rw [← e3]; exact h2, by rw [← e3, ← e.1]; exact h3, by rw [← e.2]; exact h4⟩
    unfold Runs; rw [← e1]; exact h1
  · refine .inr ⟨?_, by rw [← e.1]; exact h2, by rw [← e.2]; exact h3⟩
    unfold Skips; rw [← e1]; exact h1

/-- What is ahead of a segment comes before all of it. -/
def Pre (ops : Array Oper) (bs : List (List Nat)) (k : Nat) : Prop := ∀ i j, k ≤ i → i < ops.size → j < k → j ∈ befOf bs i ∨ early bs ops.toList j = true

theorem alone_spec {i : Nat} (h : alone bs ops.toList i = true) {j : Nat} (hj : j < ops.size) : j = i ∨ j ∈ befOf bs i ∨ i ∈ befOf bs j ∨ (j < i ∧ early bs ops.toList j = true) := by
  unfold alone at h
  have := List.all_eq_true.1 h j (List.mem_range.2 (by simpa using hj))
  simp only [Bool.or_eq_true, Bool.not_eq_true', Bool.and_eq_true, Nat.blt_eq] at this
  by_cases h1 : j = i
  · exact .inl h1
  · by_cases h2 : j ∈ befOf bs i
    · exact .inr (.inl h2)
    · by_cases h3 : i ∈ befOf bs j
      · exact .inr (.inr (.inl h3))
      · rw [loose_iff.2 ⟨fun e => h1 e.symm, h2, h3⟩] at this
        rcases this with h | h
        · cases h
        · exact .inr (.inr (.inr h))

theorem alone_pre (R : Reg ops.toList bs) {i : Nat} (hi : i < ops.size) (h : alone bs ops.toList i = true) : Pre ops bs (i + 1) ∧ (∀ j, j < i → j ∈ befOf bs i ∨ early bs ops.toList j = true) ∧ ∀ l, i < l → l < ops.size → i ∈ befOf bs l := by
  have a1 : ∀ j, j < i → j ∈ befOf bs i ∨ early bs ops.toList j = true := by
    intro j hj
    rcases alone_spec h (j := j) (by omega) with h | h | h | h
    · omega
    · exact .inl h
    · have := bef_lt R.good R.back _ _ h; omega
    · exact .inr h.2
  have a2 : ∀ l, i < l → l < ops.size → i ∈ befOf bs l := by
    intro l h1 h2
    rcases alone_spec h (j := l) (by omega) with h | h | h | h
    · omega
    · have := bef_lt R.good R.back _ _ h; omega
    · exact h
    · omega
  refine ⟨fun l j h1 h2 h3 => ?_, a1, a2⟩
  by_cases hj : j = i
  · subst hj; exact .inl (a2 l (by omega) h2)
  · exact (a1 j (by omega)).imp (fun h => bef_trans R.good R.back _ _ _ (a2 l (by omega) h2) h) id

/-- An operation that stands alone, at its place. -/
theorem alone_wp (R : Reg ops.toList bs) {i : Nat} {o : Oper} (ho : ops.toList[i]? = some o) (ha : alone bs ops.toList i = true) {Q : Exit → Act → World → Prop} {listed : Array Bool} (hsz : listed.size = ops.size) (hl : ∀ j, listed.getD j false = true ↔ j < i) (hc : Closed ops listed)
    {fuel : Nat} (hf : cnt listed.toList ≤ fuel) {a : Act} {w : World}
    (K : ∀ fuel', fuel = fuel' + 1 → wpOp P ops Q i (wpAny P .any ops Q fuel' (listed.setIfInBounds i true)) a w) : wpAny P .any ops Q fuel listed a w := by
  have hlt : i < ops.size := by have := (List.getElem?_eq_some_iff.1 ho).1; simpa using this
  obtain ⟨_, a1, a2⟩ := alone_pre R hlt ha
  have hni : ¬ listed.getD i false = true := fun h => Nat.lt_irrefl _ ((hl i).1 h)
  have hr : i ∈ Region.ready .any ops listed := is_ready R hsz hlt hni fun l hlb => (hl l).2 (bef_lt R.good R.back _ _ hlb)
  cases fuel with
  | zero => have := cnt_pos (getD_false (getD_true_of_not (by omega) hni)); omega
  | succ fuel =>
    refine ⟨fun h => (by rw [h] at hr; cases hr), fun j hj => ?_⟩
    obtain ⟨⟨p, hp⟩, hnj, hb⟩ := ready_bef R hc hj
    have hj' : ¬ j < i := fun h => unl_false hnj ((hl j).2 h)
    have hjl : j < ops.size := by have := (List.getElem?_eq_some_iff.1 hp).1; simpa using this
    have : j = i := by
      refine Classical.byContradiction fun hne => ?_
      exact hni (hb i (a2 j (by omega) hjl))
    subst this
    exact K fuel rfl

theorem closed_upto {listed : Array Bool} (R : Reg ops.toList bs) {i : Nat} (hl : ∀ j, listed.getD j false = true ↔ j < i) : Closed ops listed := fun j o hj ho e he => (hl e).2 (Nat.lt_trans (R.back j o ho e he) ((hl j).1 hj))

theorem sg_empty (R : Reg ops.toList bs) (k : Nat) (s : St) (v : Nat → V) (hv : Nat → Nat → B) : Sg cfg ops.toList bs k k s v hv := ⟨R, fun i h1 h2 => absurd h1 (by omega), fun i j h1 h2 => absurd h1 (by omega)⟩

theorem st_empty {k : Nat} : (⟨tX ops.toList s v fun j => k ≤ j ∧ j < k, hX ops.toList s hv fun j => k ≤ j ∧ j < k⟩ : St) = s := by
  have e1 : tX ops.toList s v (fun j => k ≤ j ∧ j < k) = s.t := by funext n; exact tX_not fun ⟨_, h, _⟩ => by omega
  have e2 : hX ops.toList s hv (fun j => k ≤ j ∧ j < k) = s.h := by funext n; exact hX_not fun ⟨_, h, _⟩ => by omega
  rw [e1, e2]

theorem upd_same_val {α : Type} {f : Nat → α} {d : Nat} {x : α} (h : f d = x) : upd f d x = f := by
  funext n
  by_cases e : n = d
  · subst e; rw [upd_same]; exact h.symm
  · rw [upd_ne _ _ e]

theorem lit_same {st : St} {d : Nat} {b c : Bool} (h : st.t d = .v (.c (.bool b))) (hc : b = c) : ({ st with t := upd st.t d (.v (.c (.bool c))) } : St) = st := by
  subst hc
  cases st; simp only [St.mk.injEq, and_true]; exact upd_same_val h

/-- One more operation of a segment. -/
theorem seg_more (R : Reg ops.toList bs) {k i : Nat} (hki : k ≤ i) (hp : Pre ops bs k) (g : Sg cfg ops.toList bs k i s v hv) {o : Oper} {d : Nat} (hi : i < ops.size) (hs : SegAt cfg ops.toList bs k s (upd v i (v' i)) (upd hv i (hv' i)) i o d) :
    Sg cfg ops.toList bs k (i + 1) s (upd v i (v' i)) (upd hv i (hv' i)) ∧
    (tX ops.toList s (upd v i (v' i)) fun j => k ≤ j ∧ j < i + 1) = upd (tX ops.toList s v fun j => k ≤ j ∧ j < i) d (v' i) ∧
    (hX ops.toList s (upd hv i (hv' i)) fun j => k ≤ j ∧ j < i + 1) = fun n => bif owns o n then hv' i n else hX ops.toList s hv (fun j => k ≤ j ∧ j < i) n := by
  have hne : ∀ j, j < i → upd v i (v' i) j = v j ∧ upd hv i (hv' i) j = hv j := fun j hj => ⟨upd_ne _ _ (by omega), upd_ne _ _ (by omega)⟩
  have g' : Sg cfg ops.toList bs k (i + 1) s (upd v i (v' i)) (upd hv i (hv' i)) := by
    refine ⟨R, fun l h1 h2 => ?_, fun l j h1 h2 h3 => hp l j h1 (by omega) h3⟩
    by_cases hl : l = i
    · subst hl; exact ⟨o, d, hs⟩
    · obtain ⟨o2, d2, h⟩ := g.all l h1 (by omega)
      refine ⟨o2, d2, h.congr R ((g.dsts).sub fun j hj => ⟨hj.1, by omega⟩) (fun j hj => ?_) ?_⟩
      · obtain ⟨e1, e2⟩ := hne j (by omega); exact ⟨e1.symm, e2.symm⟩
      · obtain ⟨e1, e2⟩ := hne l (by omega); exact ⟨e1.symm, e2.symm⟩
  have hdi : dstAt ops.toList i = some d := by simp only [dstAt, hs.op]; exact hs.dst
  refine ⟨g', ?_, ?_⟩
  · funext n
    by_cases e : n = d
    · subst e; rw [upd_same, tX_of R (X := fun j => k ≤ j ∧ j < i + 1) ⟨hki, Nat.lt_succ_self i⟩ hdi, upd_same]
    · rw [upd_ne _ _ e]
      by_cases h : ∃ j, (k ≤ j ∧ j < i) ∧ dstAt ops.toList j = some n
      · obtain ⟨j, hj, hd⟩ := h
        rw [tX_of R (X := fun j => k ≤ j ∧ j < i + 1) ⟨hj.1, by omega⟩ hd, tX_of R (X := fun j => k ≤ j ∧ j < i) hj hd, (hne j hj.2).1]
      · rw [tX_not h, tX_not]
        rintro ⟨j, hj, hd⟩
        by_cases hji : j = i
        · subst hji; rw [hdi] at hd; injection hd with hd; exact e hd.symm
        · exact h ⟨j, ⟨hj.1, by omega⟩, hd⟩
  · funext n
    cases e : owns o n with
    | true => rw [hX_of R g'.dsts (j := i) ⟨hki, Nat.lt_succ_self i⟩ ⟨o, hs.op, e⟩, upd_same]; rfl
    | false =>
      simp only [cond_false]
      by_cases h : ∃ j, (k ≤ j ∧ j < i) ∧ ownsAt ops.toList j n
      · obtain ⟨j, hj, hd⟩ := h
        rw [hX_of R g'.dsts (j := j) ⟨hj.1, by omega⟩ hd, hX_of R g.dsts hj hd, (hne j hj.2).2]
      · rw [hX_not h, hX_not]
        rintro ⟨j, hj, hd⟩
        by_cases hji : j = i
        · subst hji
          obtain ⟨p, hp, hpn⟩ := hd
          rw [hs.op] at hp; injection hp with hp; subst hp; rw [e] at hpn; cases hpn
        · exact h ⟨j, ⟨hj.1, by omega⟩, hd⟩

theorem dr_sound (T : Tab P cfg) (hglob : cx.glob = cfg.glob) (hnt : cfg.n = nt) (R : Reg ops.toList bs) (hsel : Region.noSelect ops = true) {Q : Exit → Act → World → Prop} (hnp : ∀ c a w, ¬ Q (.panic c) a w) {κ : St → Option ρ} {r : ρ}
    (hQ : ∀ st' φ' S' a' w', κ st' = some r → RelP cx nt φ' S' st' a' w' → Q .normal a' w') :
    ∀ (rest : List Oper) (i : Nat), rest = ops.toList.drop i → i ≤ ops.size → ∀ (k : Nat) (s : St) (v : Nat → V) (hv : Nat → Nat → B), k ≤ i → Pre ops bs k → Sg cfg ops.toList bs k i s v hv →
      evDr cfg bs ops.toList i rest ⟨tX ops.toList s v fun j => k ≤ j ∧ j < i, hX ops.toList s hv fun j => k ≤ j ∧ j < i⟩ κ = some r →
      ∀ fuel listed φ S a w, listed.size = ops.size → (∀ j, listed.getD j false = true ↔ j < k) → cnt listed.toList ≤ fuel → RelP cx nt φ S s a w → wpAny P .any ops Q fuel listed a w := by
  intro rest
  induction rest with
  | nil =>
    intro i hrest his k s v hv hki hp g h fuel listed φ S a w hsz hl hf m
    have hi : i = ops.size := by
      have : (ops.toList.drop i).length = 0 := by rw [← hrest]; rfl
      simp at this; omega
    subst hi
    refine seg_sound T hglob hnt g hsel (fun i l h1 h2 h3 h4 => absurd h3 (by omega)) hnp (Nat.le_refl _) ?_ fuel listed φ S (fun _ => False) a w hsz (fun j => by rw [hl j]; simp) hki (fun j h => h.elim) (closed_upto R hl) hf (Inv.init g m)
    intro fuel listed φ S a w hsz hl hc hf m
    have hr : Region.ready .any ops listed = [] := by
      cases e : Region.ready .any ops listed with
      | nil => rfl
      | cons j l =>
        have hj : j ∈ Region.ready .any ops listed := by rw [e]; simp
        obtain ⟨⟨p, hp⟩, hnj, _⟩ := ready_bef R hc hj
        have hjl : j < ops.size := by have := (List.getElem?_eq_some_iff.1 hp).1; simpa using this
        exact absurd ((hl j).2 hjl) (unl_false hnj)
    cases fuel with
    | zero => exact ⟨hr, hQ _ _ _ _ _ h m⟩
    | succ fuel => exact ⟨fun _ => hQ _ _ _ _ _ h m, fun j hj => by rw [hr] at hj; cases hj⟩
  | cons o rest ih =>
    intro i hrest his k s v hv hki hp g h fuel listed φ S a w hsz hl hf m
    have ho : ops.toList[i]? = some o := by
      have : (ops.toList.drop i)[0]? = some o := by rw [← hrest]; rfl
      simpa using this
    have hlt : i < ops.size := by have := (List.getElem?_eq_some_iff.1 ho).1; simpa using this
    have hrest' : rest = ops.toList.drop (i + 1) := by
      have : (ops.toList.drop i).tail = rest := by rw [← hrest]; rfl
      rw [← this]; simp
    have hoA : ops[i]? = some o := by rw [← toList_get]; exact ho
    generalize hst : (⟨tX ops.toList s v fun j => k ≤ j ∧ j < i, hX ops.toList s hv fun j => k ≤ j ∧ j < i⟩ : St) = st at h
    have hrs : restr bs ops.toList i st = Rst ops.toList bs k s v hv i := by rw [← hst]; exact restr_eq R g.dsts
    have freshS : fresh st.h o = true → o.dst.isSome = true → ∀ n, owns o n = true → s.h n = .free := by
      intro hf hd n hn
      have h1 := fresh_spec hf hn
      rw [← hst] at h1
      have h1 : hX ops.toList s hv (fun j => k ≤ j ∧ j < i) n = .free := h1
      by_cases e : ∃ j, (k ≤ j ∧ j < i) ∧ ownsAt ops.toList j n
      · obtain ⟨j, hj, hoj⟩ := e; exact g.fresh hj hoj
      · rw [hX_not e] at h1; exact h1
    -- in the segment
    have quiet_ : ∀ (vi : V) (hi : Nat → B) (κ' : St → Option ρ), (∀ st, κ' st = evDr cfg bs ops.toList (i + 1) rest st κ) → o.dst.isSome = true → (∀ n, owns o n = true → s.h n = .free) →
        ((Runs ops.toList bs k s v i o ∧ ∃ st', Quiet (owns o) (Rst ops.toList bs k s v hv i) st' ∧ (∀ (ρ' : Type) (κ' : V → St → Option ρ'), evOp cfg (Rst ops.toList bs k s v hv i) o κ' = κ' vi st') ∧ hi = st'.h) ∨ (Skips ops.toList bs k s v i o ∧ vi = .und ∧ hi = fun _ => .free)) →
        ∀ st2 : St, st2.t = st.t → (∀ n, st2.h n = bif owns o n then hi n else st.h n) → put cfg st2 o.dst vi κ' = some r → wpAny P .any ops Q fuel listed a w := by
      intro vi hi κ' hκ hd hfr hhow st2 ht hh hput
      obtain ⟨d, hd⟩ := Option.isSome_iff_exists.1 hd
      rw [hd] at hput
      simp only [put] at hput
      split at hput
      case h_2 => cases hput
      rename_i hdn
      have hdn : d < cfg.n := by rwa [Nat.blt_eq] at hdn
      have hs0 : SegAt cfg ops.toList bs k s (upd v i vi) (upd hv i hi) i o d := by
        have e1 : tX ops.toList s (upd v i vi) (befK bs k i) = tX ops.toList s v (befK bs k i) := tX_congr R fun j hj => upd_ne _ _ (by have := bef_lt R.good R.back _ _ hj.2; omega)
        have e2 : hX ops.toList s (upd hv i hi) (befK bs k i) = hX ops.toList s hv (befK bs k i) := hX_congr R (g.dsts.sub fun j hj => ⟨hj.1, bef_lt R.good R.back _ _ hj.2⟩) fun j hj => upd_ne _ _ (by have := bef_lt R.good R.back _ _ hj.2; omega)
        have e3 : Rst ops.toList bs k s (upd v i vi) (upd hv i hi) i = Rst ops.toList bs k s v hv i := by unfold Rst; rw [e1, e2]
        refine ⟨ho, hd, hdn, hfr, ?_⟩
        unfold Runs Skips
        rw [e3, e1, upd_same, upd_same]
        exact hhow
      obtain ⟨g', et, eh⟩ := seg_more (v' := fun _ => vi) (hv' := fun _ => hi) R hki hp g hlt hs0
      rw [hκ] at hput
      refine ih (i + 1) hrest' (by omega) k s _ _ (by omega) hp g' ?_ fuel listed φ S a w hsz hl hf m
      rw [et, eh]
      have : (⟨upd (tX ops.toList s v fun j => k ≤ j ∧ j < i) d vi, fun n => bif owns o n then hi n else hX ops.toList s hv (fun j => k ≤ j ∧ j < i) n⟩ : St) = { st2 with t := upd st2.t d vi } := by
        rw [ht, ← hst]
        simp only [St.mk.injEq, true_and]
        funext n
        rw [hh n, ← hst]
      rw [this]; exact hput
    -- an operation that stands alone
    have alone_ : alone bs ops.toList i = true → (∀ φ S a w, RelP cx nt φ S st a w → ∀ K : Act → World → Prop, (∀ st2 φ' S' a' w', evDr cfg bs ops.toList (i + 1) rest st2 κ = some r → RelP cx nt φ' S' st2 a' w' → K a' w') → wpOp P ops Q i K a w) → wpAny P .any ops Q fuel listed a w := by
      intro ha hop
      obtain ⟨hpre, a1, a2⟩ := alone_pre R hlt ha
      refine seg_sound T hglob hnt g hsel (fun j l h1 h2 h3 h4 => ?_) hnp (by omega) ?_ fuel listed φ S (fun _ => False) a w hsz (fun j => by rw [hl j]; simp) hki (fun j h => h.elim) (closed_upto R hl) hf (Inv.init g m)
      · by_cases e : l = i
        · subst e; exact a1 j h2
        · exact (a1 j h2).imp (fun h => bef_trans R.good R.back _ _ _ (a2 l (by omega) h4) h) id
      · intro fuel listed φ S a w hsz hl hc hf m
        refine alone_wp R ho ha hsz hl hc hf fun fuel' hfu => ?_
        rw [hst] at m
        refine hop φ S a w m _ fun st2 φ' S' a' w' h2 m2 => ?_
        refine ih (i + 1) hrest' (by omega) (i + 1) st2 v hv (Nat.le_refl _) hpre (sg_empty R _ _ _ _) (by rw [st_empty]; exact h2) fuel' _ φ' S' a' w' (by simp [hsz]) (fun j => ?_) ?_ m2
        · by_cases hji : j = i
          · subst hji; simp [hsz, hlt]
          · rw [getD_set_ne false (Ne.symm hji), hl j]; omega
        · have hni : ¬ listed.getD i false = true := fun h => Nat.lt_irrefl _ ((hl i).1 h)
          have := cnt_set (getD_false (getD_true_of_not (by omega) hni))
          simp only [Array.toList_setIfInBounds]; omega
    -- a run
    have run_ : Runs ops.toList bs k s v i o → (∀ a : Act, (∃ φ S w, RelP cx nt φ S st a w) → Region.wanted o (yielded ops a.tmps) = true) →
        (match o.dst.isSome && fresh st.h o && quiet cfg (restr bs ops.toList i st) o with
          | true => evOp cfg (restr bs ops.toList i st) o fun v st' => put cfg ⟨st.t, fun n => bif owns o n then st'.h n else st.h n⟩ o.dst v fun st => evDr cfg bs ops.toList (i + 1) rest st κ
          | false => match alone bs ops.toList i with
            | true => evOp cfg st o fun v st => put cfg st o.dst v fun st => evDr cfg bs ops.toList (i + 1) rest st κ
            | false => none) = some r → wpAny P .any ops Q fuel listed a w := by
      intro hr hw h
      split at h
      · rename_i hq
        simp only [Bool.and_eq_true] at hq
        obtain ⟨⟨q1, q2⟩, q3⟩ := hq
        obtain ⟨vi, st', b1, b2, b3⟩ := evOp_det q3 h
        rw [hrs] at b1 b3
        exact quiet_ vi st'.h _ (fun _ => rfl) q1 (freshS q2 q1) (.inl ⟨hr, st', b1, b3, rfl⟩) ⟨st.t, fun n => bif owns o n then st'.h n else st.h n⟩ rfl (fun n => rfl) b2
      · split at h
        · rename_i ha
          refine alone_ ha fun φ S a w m K hK => ?_
          unfold wpOp
          simp only [hoA]
          rw [if_pos (hw a ⟨φ, S, w, m⟩)]
          refine .inl (evOp_wp T hglob m o h fun vv st2 φ' S' val w' h1 h2 h3 h4 h5 => ?_)
          obtain ⟨st3, h6, m2⟩ := (m.later h2 h3 h4).put hnt h5 h1
          exact hK st3 φ' S' _ w' h6 m2
        · cases h
    have skip_ : Skips ops.toList bs k s v i o → (∀ a : Act, (∃ φ S w, RelP cx nt φ S st a w) → Region.wanted o (yielded ops a.tmps) = false) →
        (match o.dst.isSome && fresh st.h o || alone bs ops.toList i with
          | true => put cfg st o.dst .und fun st => evDr cfg bs ops.toList (i + 1) rest st κ
          | false => none) = some r → wpAny P .any ops Q fuel listed a w := by
      intro hr hw h
      split at h
      · rename_i hq
        simp only [Bool.or_eq_true, Bool.and_eq_true] at hq
        rcases hq with ⟨q1, q2⟩ | ha
        · refine quiet_ .und (fun _ => .free) _ (fun _ => rfl) q1 (freshS q2 q1) (.inr ⟨hr, rfl, rfl⟩) st rfl (fun n => ?_) h
          cases e : owns o n with
          | false => rfl
          | true => rw [fresh_spec q2 e]; rfl
        · refine alone_ ha fun φ S a w m K hK => ?_
          unfold wpOp
          simp only [hoA]
          rw [if_neg (by rw [hw a ⟨φ, S, w, m⟩]; simp)]
          obtain ⟨st3, h6, m2⟩ := m.put hnt (show RelV S w φ st.h .und undef from rfl) h
          exact hK st3 φ S _ w h6 m2
      · cases h
    -- the guard
    simp only [evDr] at h
    split at h
    · rename_i eg
      exact run_ (.inl eg) (fun a _ => by simp [Region.wanted, eg]) h
    · rename_i q want eg
      split at h
      case h_2 => cases h
      rename_i d ed hb
      have hb := any_beq.1 hb
      have hqi := bef_lt R.good R.back _ _ hb
      have htq : st.t d = tX ops.toList s v (befK bs k i) d := by
        rw [← hst]
        show tX ops.toList s v _ d = _
        by_cases hk : k ≤ q
        · rw [tX_of R (X := fun j => k ≤ j ∧ j < i) ⟨hk, hqi⟩ ed, tX_of R (X := befK bs k i) ⟨hk, hb⟩ ed]
        · rw [tX_not fun ⟨j, hj, hd⟩ => hk (dst_inj R.dist hd ed ▸ hj.1), tX_not fun ⟨j, hj, hd⟩ => hk (dst_inj R.dist hd ed ▸ hj.1)]
      have edA : (ops.toList[q]?).bind (·.dst) = some d := ed
      split at h
      · rename_i b eb
        have wb : ∀ a : Act, (∃ φ S w, RelP cx nt φ S st a w) → Region.wanted o (yielded ops a.tmps) = (b == want) := by
          rintro a ⟨φ, S, w, m⟩
          have hr := m.t d
          rw [eb] at hr
          exact wanted_bool eg edA hr
        cases b with
        | true =>
          simp only [cond_true, upd_same_val eb] at h
          cases want with
          | true => exact run_ (.inr ⟨q, true, d, true, eg, ed, hb, by rw [← htq]; exact eb, rfl⟩) (fun a ha => by rw [wb a ha]; rfl) h
          | false => exact skip_ ⟨q, false, d, eg, ed, hb, .inr ⟨true, by rw [← htq]; exact eb, by simp⟩⟩ (fun a ha => by rw [wb a ha]; rfl) h
        | false =>
          simp only [cond_false, upd_same_val eb] at h
          cases want with
          | true => exact skip_ ⟨q, true, d, eg, ed, hb, .inr ⟨false, by rw [← htq]; exact eb, by simp⟩⟩ (fun a ha => by rw [wb a ha]; rfl) h
          | false => exact run_ (.inr ⟨q, false, d, false, eg, ed, hb, by rw [← htq]; exact eb, rfl⟩) (fun a ha => by rw [wb a ha]; rfl) h
      · rename_i eb
        exact skip_ ⟨q, want, d, eg, ed, hb, .inl (by rw [← htq]; exact eb)⟩ (fun a ⟨φ, S, w, m⟩ => by have hr := m.t d; rw [eb] at hr; exact wanted_und eg edA hr) h
      · cases h
end

theorem RelP.drawn {cx : Cx} {nt : Nat} {φ : Nat → Value} {S : Nat → Prop} {st : St} {a : Act} {w : World} (m : RelP cx nt φ S st a w) (n : Nat) : RelP cx nt φ S st a { w with drawn := n } := by
  refine ⟨fun i => RelV.mono (w := w) (w' := { w with drawn := n }) (fun _ h => h) (fun _ _ => rfl) (fun _ h => ⟨h, rfl⟩) (m.t i), ⟨fun i => ?_, m.m.apart, m.m.sep, m.m.inS, m.m.lt, m.m.glob, m.m.gl, m.m.kp, ⟨m.m.keep.os, m.m.keep.tape, m.m.keep.output, m.m.keep.size, m.m.keep.block⟩⟩, m.size, m.defers⟩
  exact RelB.mono (w := w) (w' := { w with drawn := n }) (fun _ h => h) (fun _ _ => rfl) (fun _ h => ⟨h, rfl⟩) (fun _ _ _ => rfl) (m.m.b i)

theorem wp_monoQ {o : Oper} {a : Act} {w : World} {K K' : Act → World → Prop} {Q Q' : Exit → Act → World → Prop} (h : ∀ a w, K a w → K' a w) (hq : ∀ e a w, Q e a w → Q' e a w) (hh : o.wp P a w K Q) : o.wp P a w K' Q' := by
  unfold Oper.wp at *
  generalize (execOp a.eval o).run P w = r at *
  cases r with
  | ok n w' =>
    cases n <;> simp only [Oper.upon] at hh ⊢ <;>
      first
        | exact h _ _ hh
        | exact Calls.mono hh (fun e w'' he => by cases e <;> first | exact h _ _ he | exact hq _ _ _ he | exact (match he with | ⟨a, w, hx⟩ => ⟨a, w, hq _ _ _ hx⟩))
        | exact Rows.mono hh (fun _ _ he => h _ _ he)
  | halt x w' => cases x <;> simp only [Oper.upon] at hh ⊢ <;> first | exact hq _ _ _ hh | exact hh

theorem wpAny_monoQ {ops : Array Oper} {Q Q' : Exit → Act → World → Prop} (hq : ∀ e a w, Q e a w → Q' e a w) : ∀ (fuel : Nat) (listed : Array Bool) (a : Act) (w : World), wpAny P .any ops Q fuel listed a w → wpAny P .any ops Q' fuel listed a w := by
  intro fuel
  induction fuel with
  | zero => intro listed a w h; exact ⟨h.1, hq _ _ _ h.2⟩
  | succ fuel ih =>
    intro listed a w h
    refine ⟨fun hr => hq _ _ _ (h.1 hr), fun i hi => ?_⟩
    have hh := h.2 i hi
    unfold wpOp at *
    split
    · rename_i ho; simp only [ho] at hh; exact ih _ _ _ hh
    · rename_i o ho
      simp only [ho] at hh
      split
      · rename_i hw
        simp only [hw, if_true] at hh
        rcases hh with hh | ⟨h1, h2⟩
        · exact .inl (wp_monoQ (fun a w h => ih _ _ _ h) hq hh)
        · obtain ⟨a', w', hx⟩ := h2; exact .inr ⟨h1, a', w', hq _ _ _ hx⟩
      · rename_i hw; simp only [hw] at hh; exact ih _ _ _ hh

theorem drawOk (hm : P.follows .mixedOrders = true) : DrawOk P := by
  intro ρ cfg T cx hg nt hn id ops Q κ r hQ φ S st a w m h
  unfold evDraw at h
  split at h
  case h_2 => cases h
  rename_i hd
  simp only [drawable, Bool.and_eq_true, List.all_eq_true, Bool.not_eq_true'] at hd
  obtain ⟨⟨h1, h2⟩, h3⟩ := hd
  obtain ⟨hgood, hback⟩ := good_of h1
  have R : Reg ops.toList (befores ops.toList []) := ⟨hgood, hback, h2, fun o ho d hd => by have := (h3 o ho).1; rw [hd] at this; simpa [Nat.blt_eq] using this⟩
  have hsel : Region.noSelect ops = true := by
    unfold Region.noSelect
    rw [Array.all_eq_true_iff_forall_mem]
    intro o ho
    have := (h3 o (by simpa using ho)).2
    unfold selects at this
    cases e : o.op <;> simp_all
  refine wp_region_any hm (wpAny_monoQ (Q := fun e a w => e = .normal ∧ Q .normal a w) (fun e a w hx => by rw [hx.1]; exact hx.2) _ _ _ _ (dr_sound (ρ := ρ) T hg hn R hsel (fun c a w hx => by cases hx.1) (fun st' φ' S' a' w' hk hm => ⟨rfl, hQ st' φ' S' a' w' hk hm⟩) ops.toList 0 rfl (Nat.zero_le _) 0 st (fun _ => .und) (fun _ _ => .free) (Nat.le_refl _) (fun i j _ _ h => absurd h (by omega)) (sg_empty R 0 st _ _) (by rw [st_empty]; exact h) ops.size (Array.replicate ops.size false) φ S a _ (by simp) (fun j => ?_) ?_ (m.drawn _)))
  · by_cases h : j < ops.size <;> simp [h]
  · have : ∀ n, cnt (List.replicate n false) = n := by
      intro n; induction n with
      | zero => rfl
      | succ n ih => simp [List.replicate_succ, cnt, ih]
    simp [this]
end Go.Proofs.Ytcijmfodhdigpaa.R1
