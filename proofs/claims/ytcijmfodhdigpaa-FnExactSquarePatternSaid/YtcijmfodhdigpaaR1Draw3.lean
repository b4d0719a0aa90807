/- A segment in any order. -/
import Derived.Test.YtcijmfodhdigpaaR1Draw2
namespace Go.Proofs.Ytcijmfodhdigpaa.R1
variable {P : Program} {ρ : Type}

theorem least {p : Nat → Prop} : ∀ n, p n → ∃ j, p j ∧ ∀ l, l < j → ¬ p l := by
  intro n
  induction n using Nat.strongRecOn with
  | _ n ih =>
    intro h
    by_cases hl : ∃ l, l < n ∧ p l
    · obtain ⟨l, h1, h2⟩ := hl; exact ih l h1 h2
    · exact ⟨n, h, fun l h1 h2 => hl ⟨l, h1, h2⟩⟩

def cnt : List Bool → Nat
  | [] => 0
  | true :: l => cnt l
  | false :: l => cnt l + 1

theorem cnt_set : ∀ {l : List Bool} {i : Nat}, l[i]? = some false → cnt (l.set i true) + 1 = cnt l
  | [], i, h => by simp at h
  | b :: l, 0, h => by simp at h; subst h; rfl
  | b :: l, i + 1, h => by
    simp at h
    have := cnt_set h
    cases b <;> simp [cnt, this]

theorem cnt_pos {l : List Bool} {i : Nat} (h : l[i]? = some false) : 0 < cnt l := by have := cnt_set h; omega

section
variable {cfg : Cfg} {ops : Array Oper} {bs : List (List Nat)} {k m : Nat} {s : St} {v : Nat → V} {hv : Nat → Nat → B} {cx : Cx} {nt : Nat}

theorem Inv.init (g : Sg cfg ops.toList bs k m s v hv) {φ : Nat → Value} {S : Nat → Prop} {a : Act} {w : World} (r : RelP cx nt φ S s a w) : Inv ops.toList bs k m s v hv cx nt φ S (fun _ => False) a w := by
  have e : hX ops.toList s hv (fun _ => False) = s.h := by funext n; exact hX_not fun ⟨_, h, _⟩ => h
  exact ⟨r.size, r.defers, by rw [e]; exact r.m, fun n _ => r.m.b n, fun j h => h.elim, fun n _ => r.t n, fun j d h => h.elim⟩

theorem Inv.done (g : Sg cfg ops.toList bs k m s v hv) {φ : Nat → Value} {S : Nat → Prop} {a : Act} {w : World} (I : Inv ops.toList bs k m s v hv cx nt φ S (fun j => k ≤ j ∧ j < m) a w) :
    RelP cx nt φ S ⟨tX ops.toList s v fun j => k ≤ j ∧ j < m, hX ops.toList s hv fun j => k ≤ j ∧ j < m⟩ a w := by
  refine ⟨fun n => ?_, I.i1, I.size, I.defers⟩
  by_cases h : ∃ j, (k ≤ j ∧ j < m) ∧ dstAt ops.toList j = some n
  · obtain ⟨j, hj, hd⟩ := h
    show RelV S w φ _ (tX ops.toList s v _ n) _
    rw [tX_of g.R (X := fun j => k ≤ j ∧ j < m) hj hd]
    refine RelV.mono (fun _ h => h) (fun _ _ => rfl) (fun l hl => ⟨?_, rfl⟩) (I.i5 j n hj hd)
    show (hX ops.toList s hv _ l).live = true
    rw [g.more (g.vis_seg hj.2) (fun _ h => h) hl]; exact hl
  · show RelV S w φ _ (tX ops.toList s v _ n) _
    rw [tX_not h]
    refine RelV.mono (fun _ h => h) (fun _ _ => rfl) (fun l hl => ⟨?_, rfl⟩) (I.i4 n h)
    show (hX ops.toList s hv _ l).live = true
    rw [g.base (fun _ h => h) hl]; exact hl

theorem edge_mem {o : Oper} {e : Edge} (he : e ∈ o.after) (hb : Region.binds .any e = true) : e.on ∈ edgesOf o := by
  unfold edgesOf
  exact List.mem_map.2 ⟨e, List.mem_filter.2 ⟨by simpa using he, hb⟩, rfl⟩

theorem mem_edge {o : Oper} {j : Nat} (h : j ∈ edgesOf o) : ∃ e ∈ o.after, Region.binds .any e = true ∧ e.on = j := by
  unfold edgesOf at h
  obtain ⟨e, he, rfl⟩ := List.mem_map.1 h
  obtain ⟨h1, h2⟩ := List.mem_filter.1 he
  exact ⟨e, by simpa using h1, h2, rfl⟩

theorem toList_get {j : Nat} : ops.toList[j]? = ops[j]? := Array.getElem?_toList

/-- The listed set is closed under edges. -/
def Closed (ops : Array Oper) (listed : Array Bool) : Prop := ∀ j o, listed.getD j false = true → ops.toList[j]? = some o → ∀ e ∈ edgesOf o, listed.getD e false = true

theorem ready_bef {listed : Array Bool} (g : Reg ops.toList bs) (hc : Closed ops listed) {i : Nat} (hi : i ∈ Region.ready .any ops listed) : (∃ o, ops.toList[i]? = some o) ∧ listed.getD i true = false ∧ ∀ l ∈ befOf bs i, listed.getD l false = true := by
  obtain ⟨h0, o, ho, hall⟩ := mem_ready.1 hi
  have ho' : ops.toList[i]? = some o := by rw [toList_get]; exact ho
  refine ⟨⟨o, ho'⟩, h0, fun l hl => ?_⟩
  obtain ⟨e, he, h⟩ := (g.good.mem i o ho' l).1 hl
  obtain ⟨e', he', hb, rfl⟩ := mem_edge he
  have h1 := hall e' he' hb
  rcases h with rfl | h
  · exact h1
  · exact bef_closed g.good g.back (X := fun j => listed.getD j false = true) (fun j o hj ho e he => hc j o hj ho e he) _ _ h1 h

theorem closed_set {listed : Array Bool} (g : Reg ops.toList bs) (hc : Closed ops listed) {i : Nat} (hi : i ∈ Region.ready .any ops listed) : Closed ops (listed.setIfInBounds i true) := by
  intro j o hj ho e he
  by_cases hji : j = i
  · subst hji
    exact getD_set_true ((ready_bef g hc hi).2.2 e (edge_bef g.good ho he))
  · rw [getD_set_ne false (Ne.symm hji)] at hj
    exact getD_set_true (hc j o hj ho e he)

theorem getD_false {listed : Array Bool} {i : Nat} (h : listed.getD i true = false) : listed.toList[i]? = some false := by
  cases e : listed[i]? with
  | none => simp [e] at h
  | some b => simp [e] at h; subst h; simpa using e

theorem unl_false {listed : Array Bool} {i : Nat} (h : listed.getD i true = false) : ¬ listed.getD i false = true := by
  cases e : listed[i]? with
  | none => simp [e] at h
  | some b => simp [e] at h; subst h; simp [e]

theorem getD_true_of_not {listed : Array Bool} {i : Nat} (hlt : i < listed.size) (h : ¬ listed.getD i false = true) : listed.getD i true = false := by
  simp [hlt] at h ⊢; exact h

theorem is_ready {listed : Array Bool} (g : Reg ops.toList bs) (hsz : listed.size = ops.size) {i : Nat} (hi : i < ops.size) (hn : ¬ listed.getD i false = true) (hb : ∀ l ∈ befOf bs i, listed.getD l false = true) : i ∈ Region.ready .any ops listed := by
  have ho : ops[i]? = some ops[i] := by simp [hi]
  refine mem_ready.2 ⟨getD_true_of_not (by rw [hsz]; exact hi) hn, ops[i], ho, fun e he hbd => hb _ (edge_bef g.good (by rw [toList_get]; exact ho) (edge_mem he hbd))⟩

theorem guard_rel (g : Sg cfg ops.toList bs k m s v hv) {φ : Nat → Value} {S : Nat → Prop} {X : Nat → Prop} {a : Act} {w : World} (I : Inv ops.toList bs k m s v hv cx nt φ S X a w) (hX0 : Sub X fun j => k ≤ j ∧ j < m) {i : Nat} (hb : Sub (befK bs k i) X) {q d : Nat} (hq : q ∈ befOf bs i) (hd : dstAt ops.toList q = some d) :
    ∃ h, RelV S w φ h (tX ops.toList s v (befK bs k i) d) (a.tmps.getD d undef) := by
  by_cases hk : k ≤ q
  · rw [tX_of g.R (X := befK bs k i) ⟨hk, hq⟩ hd]; exact ⟨_, I.i5 q d (hb q ⟨hk, hq⟩) hd⟩
  · rw [tX_not fun ⟨j, hj, hdj⟩ => hk (dst_inj g.R.dist hdj hd ▸ hj.1)]
    exact ⟨_, I.i4 d fun ⟨j, hj, hdj⟩ => hk (dst_inj g.R.dist hdj hd ▸ (hX0 j hj).1)⟩

theorem runs_wanted (g : Sg cfg ops.toList bs k m s v hv) {φ : Nat → Value} {S : Nat → Prop} {X : Nat → Prop} {a : Act} {w : World} (I : Inv ops.toList bs k m s v hv cx nt φ S X a w) (hX0 : Sub X fun j => k ≤ j ∧ j < m) {i : Nat} (hb : Sub (befK bs k i) X) {o : Oper} (h : Runs ops.toList bs k s v i o) : Region.wanted o (yielded ops a.tmps) = true := by
  rcases h with h | ⟨q, want, d, b, h1, h2, h3, h4, h5⟩
  · simp [Region.wanted, h]
  · obtain ⟨hh, hr⟩ := guard_rel g I hX0 hb h3 h2
    rw [h4] at hr
    have hr : a.tmps.getD d undef = .bool b := hr
    rw [wanted_bool h1 h2 hr, h5]; cases want <;> rfl

theorem skips_wanted (g : Sg cfg ops.toList bs k m s v hv) {φ : Nat → Value} {S : Nat → Prop} {X : Nat → Prop} {a : Act} {w : World} (I : Inv ops.toList bs k m s v hv cx nt φ S X a w) (hX0 : Sub X fun j => k ≤ j ∧ j < m) {i : Nat} (hb : Sub (befK bs k i) X) {o : Oper} (h : Skips ops.toList bs k s v i o) : Region.wanted o (yielded ops a.tmps) = false := by
  obtain ⟨q, want, d, h1, h2, h3, h4⟩ := h
  obtain ⟨hh, hr⟩ := guard_rel g I hX0 hb h3 h2
  rcases h4 with h4 | ⟨b, h4, h5⟩
  · rw [h4] at hr; exact wanted_und h1 h2 hr
  · rw [h4] at hr
    have hr : a.tmps.getD d undef = .bool b := hr
    rw [wanted_bool h1 h2 hr]; cases want <;> cases b <;> first | rfl | exact absurd rfl h5

def ofC : C → Value
  | .int k n => .int k n
  | .bool b => .bool b
  | .str s => .string s
  | _ => undef

def plainC : C → Bool
  | .int .. | .bool _ | .str _ => true
  | _ => false

theorem plainC_rel {S : Nat → Prop} {w : World} {φ : Nat → Value} {h : Nat → B} {c : C} {v : Value} (hc : plainC c = true) (hr : RelC S w φ h c v) : v = ofC c := by
  cases c <;> first | exact hr | cases hc

theorem cond_none {α : Type} {c : Bool} {a : Option α} {r : α} (h : (bif c then none else a) = some r) : a = some r := by cases c <;> first | exact h | cases h

theorem intBin_plain {op : BinOp} {k : IntKind} {x y : Int} {c : C} (h : intBin op k x y some = some c) : plainC c = true := by
  cases op <;> simp only [intBin] at h <;> first
    | (injection h with h; subst h; rfl)
    | (have h := cond_none h; injection h with h; subst h; rfl)

theorem strBin_plain {op : BinOp} {x y : ByteArray} {c : C} (h : strBin op x y some = some c) : plainC c = true := by
  cases op <;> simp only [strBin] at h <;> first
    | (injection h with h; subst h; rfl)
    | (have h := cond_none h; injection h with h; subst h; rfl)
    | cases h

/-- A reckoning of numbers or of strings comes to the same in any world. -/
theorem bin_steady {tt : TT} (hT : TTok P tt) {S : Nat → Prop} {w : World} {φ : Nat → Value} {hh : Nat → B} {t : Nat} {op : BinOp} {x y : V} {vx vy : Value} (ox oy : Operand) (hx : RelV S w φ hh x vx) (hy : RelV S w φ hh y vy) (hne : op ≠ .eql ∧ op ≠ .neq)
    {κ : C → Option ρ} {r : ρ} (h : bin tt t op x y κ = some r) : ∃ v, ∀ w', (do eqGuard op t ox oy vx vy; binOp op t vx vy : Sem Value).run P w' = .ok v w' := by
  rw [bin_nat] at h
  obtain ⟨c, hc, _⟩ := Option.bind_eq_some_iff.1 h
  have key : plainC c = true ∧ ∀ w', RelV S w' φ hh x vx ∧ RelV S w' φ hh y vy := by
    have hc' := hc
    unfold bin at hc'
    split at hc'
    · rename_i k a k' b
      refine ⟨?_, fun w' => ⟨hx, hy⟩⟩
      split at hc'
      · exact intBin_plain hc'
      · exact intBin_plain hc'
      · split at hc'
        · exact intBin_plain hc'
        · cases hc'
    · exact ⟨strBin_plain hc', fun w' => ⟨hx, hy⟩⟩
    · split at hc'
      · exact absurd rfl hne.1
      · exact absurd rfl hne.2
      · cases hc'
    · split at hc'
      · exact absurd rfl hne.1
      · exact absurd rfl hne.2
      · cases hc'
    · split at hc'
      · exact absurd rfl hne.1
      · exact absurd rfl hne.2
      · cases hc'
    · split at hc'
      · exact absurd rfl hne.1
      · exact absurd rfl hne.2
      · cases hc'
    · cases hc'
  refine ⟨ofC c, fun w' => ?_⟩
  obtain ⟨c', v', e, hrun, hr⟩ := bin_sound hT (w := w') ox oy (key.2 w').1 (key.2 w').2 hc
  injection e with e; subst e
  rw [hrun, plainC_rel key.1 hr]

/-- An operation that hands a value on comes to the same in any world. -/
theorem hands_steady {cfg : Cfg} (hT : TTok P cfg.tt) {cx : Cx} {nt : Nat} {φ : Nat → Value} {S : Nat → Prop} {st : St} {a : Act} {w : World} (m : RelP cx nt φ S st a w) {o : Oper} (hh : handsOn o = true) {κ : V → St → Option ρ} {r : ρ} (h : evOp cfg st o κ = some r) :
    ∃ v, ∀ w', (execOp a.eval o).run P w' = .ok (.value v) w' := by
  cases ho : o.op <;> simp only [handsOn, ho, Bool.false_eq_true] at hh
  case move x => exact ⟨a.eval x, fun w' => by simp [execOp, ho]⟩
  case assign x => exact ⟨a.eval x, fun w' => by simp [execOp, ho]⟩
  case extract x i =>
    simp only [evOp, ho] at h
    split at h
    · rename_i ws e
      obtain ⟨vs, hv, hc⟩ : RelV S w φ st.h (.tup ws) (a.eval x) := opnd_eq m e
      split at h
      · rename_i y ey
        obtain ⟨b, hb, hr⟩ := hc.get ey
        have hb' : vs[i]? = some b := by simpa using hb
        exact ⟨b, fun w' => by simp [execOp, ho, hv, Instr.extract, hb']⟩
      · cases h
    · cases h
  case unOp op t x =>
    simp only [evOp, ho] at h
    unfold un at h
    split at h
    · rename_i k n e
      have hv : a.eval x = .int k n := opnd_eq m e
      exact ⟨_, fun w' => by simp [execOp, ho, hv, Op.unary, Op.intArith]; rfl⟩
    · rename_i b e
      have hv : a.eval x = .bool b := opnd_eq m e
      exact ⟨_, fun w' => by simp [execOp, ho, hv, Op.unary]; rfl⟩
    · rename_i k n e
      have hv : a.eval x = .int k n := opnd_eq m e
      exact ⟨_, fun w' => by simp [execOp, ho, hv, Op.unary, Op.intBits]; rfl⟩
    · cases h
  case binOp op t x y t' =>
    simp only [evOp, ho] at h
    have hne : op ≠ .eql ∧ op ≠ .neq := by
      constructor <;> (rintro rfl; simp at hh)
    obtain ⟨v, hv⟩ := bin_steady hT x y (relV_opnd m x) (relV_opnd m y) hne h
    refine ⟨v, fun w' => ?_⟩
    simp only [execOp, ho]
    rw [Sem.run_bind, hv w']; rfl

open Classical in
/-- One operation of a segment, by its facts: what is behind it is the invariant's. -/
theorem seg_op (T : Tab P cfg) (hglob : cx.glob = cfg.glob) (hnt : cfg.n = nt) (g : Sg cfg ops.toList bs k m s v hv) {Q : Exit → Act → World → Prop} {listed : Array Bool} {φ : Nat → Value} {S : Nat → Prop} {X : Nat → Prop} {a : Act} {w : World}
    (hl : ∀ j, listed.getD j false = true ↔ j < k ∨ X j) (hX0 : Sub X (fun j => k ≤ j ∧ j < m)) (hc : Closed ops listed) (I : Inv ops.toList bs k m s v hv cx nt φ S X a w) {i : Nat} (hi : i ∈ Region.ready .any ops listed) (hik : k ≤ i) (him : i < m) {K : Act → World → Prop}
    (next : ∀ o φ2 S2 val w2, ops.toList[i]? = some o → Inv ops.toList bs k m s v hv cx nt φ2 S2 (fun j => X j ∨ j = i) (a.put o.dst val) w2 → K (a.put o.dst val) w2) :
    ∃ o, ops.toList[i]? = some o ∧ ((Region.wanted o (yielded ops a.tmps) = true ∧ o.wp P a w K Q) ∨ (Region.wanted o (yielded ops a.tmps) = false ∧ K (a.put o.dst undef) w)) := by
  obtain ⟨⟨o, ho⟩, hni, hbl⟩ := ready_bef g.R hc hi
  have hlt : i < ops.size := by have := (List.getElem?_eq_some_iff.1 ho).1; simpa using this
  have hni' := unl_false hni
  have hnX : ¬ X i := fun h => hni' ((hl i).2 (.inr h))
  have hb : Sub (befK bs k i) X := fun j hj => by rcases (hl j).1 (hbl j hj.2) with h | h; exact absurd hj.1 (by omega); exact h
  have hcX : ∀ j l, X j → l ∈ befOf bs j → listed.getD l false = true := fun j l hj hlb => bef_closed g.R.good g.R.back (X := fun j => listed.getD j false = true) (fun j o hj ho e he => hc j o hj ho e he) j l ((hl j).2 (.inr hj)) hlb
  have hcc : ∀ j, X j → i ∉ befOf bs j := fun j hj h => hni' (hcX j i hj h)
  have hcl : ∀ j l, X j → befK bs k j l → X l := fun j l hj hlb => by rcases (hl l).1 (hcX j l hj hlb.2) with h | h; exact absurd hlb.1 (by omega); exact h
  obtain ⟨o', d, hs⟩ := g.all i hik him
  have := hs.op; rw [ho] at this; injection this with this; subst this
  have hrp := I.rst g hX0 ⟨hik, him⟩ hnX hb hcc
  have hrh := g.rst_h (i := i) ⟨hik, him⟩
  refine ⟨o, ho, ?_⟩
  rcases hs.how with ⟨hr, st', hq, hdet, hvi⟩ | ⟨hsk, hvi, hhv⟩
  · refine .inl ⟨runs_wanted g I hX0 hb hr, ?_⟩
    refine (evOp_wp (ρ := Unit) (κ := fun v' s' => if v' = v i ∧ s' = st' then some () else none) (r := ()) T (show (cxOf cx φ S (hX ops.toList s hv (befK bs k i)) w).glob = cfg.glob from hglob) hrp o (by rw [hdet]; simp) fun vv st2 φ' S' val w' h1 h2 h3 h4 h5 => ?_)
    have h1 : vv = v i ∧ st2 = st' := by
      by_cases h : vv = v i ∧ st2 = st'
      · exact h
      · rw [if_neg h] at h1; cases h1
    obtain ⟨rfl, rfl⟩ := h1
    have hst : st2.h = hX ops.toList s hv (visK bs k i) := by
      have DV := g.dsts.sub (g.vis_seg him)
      funext n
      cases e : owns o n with
      | true => rw [hX_of g.R DV (j := i) ⟨hik, .inl rfl⟩ ⟨o, ho, e⟩, hvi]
      | false =>
        rw [hq.h n (.inr e), hrh]
        by_cases h : ∃ j, befK bs k i j ∧ ownsAt ops.toList j n
        · obtain ⟨j, hj, hoj⟩ := h
          rw [hX_of g.R (g.dsts.sub (g.bef_seg him)) hj hoj, hX_of g.R DV (j := j) ⟨hj.1, .inr hj.2⟩ hoj]
        · rw [hX_not h, hX_not]
          rintro ⟨j, ⟨h1, rfl | h2⟩, hoj⟩
          · obtain ⟨p, hp, hpn⟩ := hoj
            rw [ho] at hp; injection hp with hp; subst hp; rw [e] at hpn; cases hpn
          · exact h ⟨j, ⟨h1, h2⟩, hoj⟩
    rw [hst] at h2 h4 h5
    rw [hrh] at h4
    obtain ⟨φ2, I2⟩ := I.step g hX0 ⟨hik, him⟩ hnX hb hcc hcl hs hnt h2 h4 h5
    exact next o φ2 S' val w' ho I2
  · refine .inr ⟨skips_wanted g I hX0 hb hsk, ?_⟩
    have hst : hX ops.toList s hv (visK bs k i) = hX ops.toList s hv (befK bs k i) := by
      have DV := g.dsts.sub (g.vis_seg him)
      funext n
      by_cases h : ∃ j, befK bs k i j ∧ ownsAt ops.toList j n
      · obtain ⟨j, hj, hoj⟩ := h
        rw [hX_of g.R (g.dsts.sub (g.bef_seg him)) hj hoj, hX_of g.R DV (j := j) ⟨hj.1, .inr hj.2⟩ hoj]
      · rw [hX_not h]
        by_cases h2 : ownsAt ops.toList i n
        · rw [hX_of g.R DV (j := i) ⟨hik, .inl rfl⟩ h2, hhv, g.fresh ⟨hik, him⟩ h2]
        · rw [hX_not]
          rintro ⟨j, ⟨h3, rfl | h4⟩, hoj⟩
          · exact h2 hoj
          · exact h ⟨j, ⟨h3, h4⟩, hoj⟩
    have hm2 := hrp.m
    rw [hrh] at hm2
    have lat := Later.refl S w φ (hX ops.toList s hv (befK bs k i))
    obtain ⟨φ2, I2⟩ := I.step (val := undef) (φ' := φ) (S' := S) (w' := w) g hX0 ⟨hik, him⟩ hnX hb hcc hcl hs hnt (by rw [hst]; exact hm2) (by rw [hst]; exact lat) (by rw [hvi]; exact rfl)
    exact next o φ2 S undef w ho I2

open Classical in
theorem seg_sound (T : Tab P cfg) (hglob : cx.glob = cfg.glob) (hnt : cfg.n = nt) (g : Sg cfg ops.toList bs k m s v hv) (hsel : Region.noSelect ops = true) (hall : ∀ i l, k ≤ i → i < m → m ≤ l → l < ops.size → i ∈ befOf bs l ∨ early bs ops.toList i = true) {Q : Exit → Act → World → Prop} (hQ : ∀ c a w, ¬ Q (.panic c) a w) (hm : m ≤ ops.size)
    (C : ∀ fuel listed φ S a w, listed.size = ops.size → (∀ j, listed.getD j false = true ↔ j < m) → Closed ops listed → cnt listed.toList ≤ fuel → RelP cx nt φ S ⟨tX ops.toList s v fun j => k ≤ j ∧ j < m, hX ops.toList s hv fun j => k ≤ j ∧ j < m⟩ a w → wpAny P .any ops Q fuel listed a w) :
    ∀ fuel listed φ S (X : Nat → Prop) a w, listed.size = ops.size → (∀ j, listed.getD j false = true ↔ j < k ∨ X j) → k ≤ m → Sub X (fun j => k ≤ j ∧ j < m) → Closed ops listed → cnt listed.toList ≤ fuel → Inv ops.toList bs k m s v hv cx nt φ S X a w → wpAny P .any ops Q fuel listed a w := by
  intro fuel
  induction fuel with
  | zero =>
    intro listed φ S X a w hsz hl hkm hX0 hc hf I
    by_cases hd : ∀ j, k ≤ j → j < m → X j
    · have e : X = fun j => k ≤ j ∧ j < m := by funext j; exact propext ⟨hX0 j, fun h => hd j h.1 h.2⟩
      subst e
      exact C 0 listed φ S a w hsz (fun j => (hl j).trans ⟨fun h => h.elim (fun h => Nat.lt_of_lt_of_le h hkm) (·.2), fun h => by by_cases hk : j < k; exact .inl hk; exact .inr ⟨by omega, h⟩⟩) hc hf (I.done g)
    · exfalso
      apply hd
      intro j h1 h2
      refine Classical.byContradiction fun hn => ?_
      have : ¬ listed.getD j false = true := fun h => by rcases (hl j).1 h with h | h; omega; exact hn h
      have := cnt_pos (getD_false (getD_true_of_not (by omega) this))
      omega
  | succ fuel ih =>
    intro listed φ S X a w hsz hl hkm hX0 hc hf I
    by_cases hd : ∀ j, k ≤ j → j < m → X j
    · have e : X = fun j => k ≤ j ∧ j < m := by funext j; exact propext ⟨hX0 j, fun h => hd j h.1 h.2⟩
      subst e
      exact C _ listed φ S a w hsz (fun j => (hl j).trans ⟨fun h => h.elim (fun h => Nat.lt_of_lt_of_le h hkm) (·.2), fun h => by by_cases hk : j < k; exact .inl hk; exact .inr ⟨by omega, h⟩⟩) hc hf (I.done g)
    · -- the least that is left
      have hex : ∃ j, (k ≤ j ∧ j < m) ∧ ¬ X j := Classical.byContradiction fun hno => hd fun j h1 h2 => Classical.byContradiction fun hn => hno ⟨j, ⟨h1, h2⟩, hn⟩
      have hleast : ∃ j, ((k ≤ j ∧ j < m) ∧ ¬ X j) ∧ ∀ l, l < j → ¬ ((k ≤ l ∧ l < m) ∧ ¬ X l) := by
        obtain ⟨j, hj⟩ := hex
        exact least (p := fun j => (k ≤ j ∧ j < m) ∧ ¬ X j) j hj
      obtain ⟨i0, ⟨hi0, hn0⟩, hmin⟩ := hleast
      have hn0' : ¬ listed.getD i0 false = true := fun h => by rcases (hl i0).1 h with h | h; omega; exact hn0 h
      have hr0 : i0 ∈ Region.ready .any ops listed := by
        refine is_ready g.R hsz (by omega) hn0' fun l hlb => ?_
        have hlt := bef_lt g.R.good g.R.back _ _ hlb
        refine (hl l).2 ?_
        by_cases hk : l < k
        · exact .inl hk
        · exact .inr (Classical.byContradiction fun hn => hmin l hlt ⟨⟨by omega, by omega⟩, hn⟩)
      have next : ∀ i, i ∈ Region.ready .any ops listed → k ≤ i → i < m → ∀ o φ2 S2 val w2, ops.toList[i]? = some o → Inv ops.toList bs k m s v hv cx nt φ2 S2 (fun j => X j ∨ j = i) (a.put o.dst val) w2 → wpAny P .any ops Q fuel (listed.setIfInBounds i true) (a.put o.dst val) w2 := by
        intro i hi hik him o φ2 S2 val w2 ho I2
        obtain ⟨_, hni, _⟩ := ready_bef g.R hc hi
        have hlt : i < ops.size := by have := (List.getElem?_eq_some_iff.1 ho).1; simpa using this
        refine ih _ φ2 S2 _ _ _ (by simp [hsz]) (fun j => ?_) hkm ?_ (closed_set g.R hc hi) ?_ I2
        · by_cases hji : j = i
          · subst hji; simp [hsz, hlt]
          · rw [getD_set_ne false (Ne.symm hji), hl j]; simp [hji]
        · rintro j (hj | rfl); exact hX0 j hj; exact ⟨hik, him⟩
        · have := cnt_set (getD_false hni)
          simp only [Array.toList_setIfInBounds]; omega
      by_cases he : ∃ i, i ∈ Region.ready .any ops listed ∧ (k ≤ i ∧ i < m) ∧ early bs ops.toList i = true
      · -- an operation that only hands a value on goes first
        obtain ⟨i, hi, ⟨hik, him⟩, hearly⟩ := he
        obtain ⟨o, ho, hop⟩ := seg_op T hglob hnt g (Q := Q) hl hX0 hc I hi hik him (K := wpAny P .any ops Q fuel (listed.setIfInBounds i true)) (next i hi hik him)
        obtain ⟨o', d, ho', hd, hh, hap⟩ := early_spec hearly
        rw [ho] at ho'; injection ho' with ho'; subst ho'
        have hoA : ops[i]? = some o := by rw [← toList_get]; exact ho
        have hfree : ∀ (j : Nat) (oj : Oper), ops[j]? = some oj → j ≠ i → listed.getD j true = false → (∀ e ∈ oj.after, Region.binds .any e = true → e.on ≠ i) → o.apart ops oj = true := by
          intro j oj hj hne hun hno
          have := hap j oj (by rw [toList_get]; exact hj) hne (fun hb => unl_false hun ((ready_bef g.R hc hi).2.2 j hb)) (fun hb => by obtain ⟨e, h1, h2, h3⟩ := mem_edge hb; exact hno e h1 h2 h3)
          simpa using this
        have hsel' := Region.noSelect_spec hsel
        rcases hop with ⟨hw, hwp⟩ | ⟨hw, hK⟩
        · obtain ⟨o2, d2, hs⟩ := g.all i hik him
          have := hs.op; rw [ho] at this; injection this with this; subst this
          have hni' := unl_false (ready_bef g.R hc hi).2.1
          have hbX : Sub (befK bs k i) X := fun j hj => by rcases (hl j).1 ((ready_bef g.R hc hi).2.2 j hj.2) with h | h; exact absurd hj.1 (by omega); exact h
          have hcc : ∀ j, X j → i ∉ befOf bs j := fun j hj h => hni' (bef_closed g.R.good g.R.back (X := fun j => listed.getD j false = true) (fun j o hj ho e he => hc j o hj ho e he) j i ((hl j).2 (.inr hj)) h)
          have hrp := I.rst g hX0 ⟨hik, him⟩ (fun h => hni' ((hl i).2 (.inr h))) hbX hcc
          rcases hs.how with ⟨hr, st', hq, hdet, hvi⟩ | ⟨hsk, hvi, hhv⟩
          case inr => rw [skips_wanted g I hX0 hbX hsk] at hw; cases hw
          obtain ⟨val, hrun⟩ := hands_steady (ρ := Unit) T.tt hrp hh (κ := fun _ _ => some ()) (r := ()) (by rw [hdet])
          have hK : wpAny P .any ops Q fuel (listed.setIfInBounds i true) (a.put o.dst val) w := by
            unfold Oper.wp at hwp
            rw [hrun w] at hwp; exact hwp
          exact wpAny_first hoA hsel' (fun c a w h => absurd h (hQ c _ w)) fuel listed a w hfree hi (.inl ⟨hw, hrun⟩) hK
        · exact wpAny_first hoA hsel' (fun c a w h => absurd h (hQ c _ w)) fuel listed a w hfree hi (.inr ⟨hw, rfl⟩) hK
      · refine ⟨fun h => (by rw [h] at hr0; cases hr0), fun i hi => ?_⟩
        obtain ⟨⟨o, ho⟩, hni, hbl⟩ := ready_bef g.R hc hi
        have hlt : i < ops.size := by have := (List.getElem?_eq_some_iff.1 ho).1; simpa using this
        have hni' := unl_false hni
        have hik : k ≤ i := Classical.byContradiction fun h => hni' ((hl i).2 (.inl (by omega)))
        have him : i < m := by
          refine Classical.byContradiction fun h => ?_
          rcases hall i0 i hi0.1 hi0.2 (by omega) hlt with h | h
          · exact hn0' (hbl i0 h)
          · exact he ⟨i0, hr0, hi0, h⟩
        obtain ⟨o', ho', hop⟩ := seg_op T hglob hnt g (Q := Q) hl hX0 hc I hi hik him (K := wpAny P .any ops Q fuel (listed.setIfInBounds i true)) (next i hi hik him)
        have hoA : ops[i]? = some o' := by rw [← toList_get]; exact ho'
        unfold wpOp
        simp only [hoA]
        rcases hop with ⟨hw, hwp⟩ | ⟨hw, hK⟩
        · rw [if_pos hw]; exact .inl hwp
        · rw [if_neg (by rw [hw]; simp)]; exact hK
end
end Go.Proofs.Ytcijmfodhdigpaa.R1
