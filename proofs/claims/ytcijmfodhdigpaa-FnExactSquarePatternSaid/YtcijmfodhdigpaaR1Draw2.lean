/- One operation of a segment, at any place in the order. -/
import Derived.Test.YtcijmfodhdigpaaR1Draw
namespace Go.Proofs.Ytcijmfodhdigpaa.R1
variable {P : Program} {ρ : Type}

section
variable (cfg : Cfg) (ops : List Oper) (bs : List (List Nat)) (k m : Nat) (s : St) (v : Nat → V) (hv : Nat → Nat → B)

noncomputable def Rst (i : Nat) : St := restr bs ops i ⟨tX ops s v (befK bs k i), hX ops s hv (befK bs k i)⟩

def Runs (i : Nat) (o : Oper) : Prop := o.guard = none ∨ ∃ g want dg b, o.guard = some (g, want) ∧ dstAt ops g = some dg ∧ g ∈ befOf bs i ∧ tX ops s v (befK bs k i) dg = .v (.c (.bool b)) ∧ b = want

def Skips (i : Nat) (o : Oper) : Prop := ∃ g want dg, o.guard = some (g, want) ∧ dstAt ops g = some dg ∧ g ∈ befOf bs i ∧ (tX ops s v (befK bs k i) dg = .und ∨ ∃ b, tX ops s v (befK bs k i) dg = .v (.c (.bool b)) ∧ b ≠ want)

structure SegAt (i : Nat) (o : Oper) (d : Nat) : Prop where
  op : ops[i]? = some o
  dst : o.dst = some d
  lt : d < cfg.n
  fresh : ∀ n, owns o n = true → s.h n = .free
  how : (Runs ops bs k s v i o ∧ ∃ st', Quiet (owns o) (Rst ops bs k s v hv i) st' ∧ (∀ (ρ' : Type) (κ' : V → St → Option ρ'), evOp cfg (Rst ops bs k s v hv i) o κ' = κ' (v i) st') ∧ hv i = st'.h) ∨
    (Skips ops bs k s v i o ∧ v i = .und ∧ hv i = fun _ => .free)

structure Sg : Prop where
  R : Reg ops bs
  all : ∀ i, k ≤ i → i < m → ∃ o d, SegAt cfg ops bs k s v hv i o d
  pre : ∀ i j, k ≤ i → i < m → j < k → j ∈ befOf bs i ∨ early bs ops j = true

structure Inv (cx : Cx) (nt : Nat) (φ : Nat → Value) (S : Nat → Prop) (X : Nat → Prop) (a : Act) (w : World) : Prop where
  size : a.tmps.size = nt
  defers : a.defers = []
  i1 : RelH cx φ S (hX ops s hv X) w
  i2 : ∀ n, (¬ ∃ j, (k ≤ j ∧ j < m) ∧ ownsAt ops j n) → RelB S w φ s.h cx.ok (φ n) (s.h n)
  i3 : ∀ j, X j → ∀ n, ownsAt ops j n → RelB S w φ (hX ops s hv (visK bs k j)) cx.ok (φ n) (hv j n)
  i4 : ∀ n, (¬ ∃ j, X j ∧ dstAt ops j = some n) → RelV S w φ s.h (s.t n) (a.tmps.getD n undef)
  i5 : ∀ j d, X j → dstAt ops j = some d → RelV S w φ (hX ops s hv (visK bs k j)) (v j) (a.tmps.getD d undef)
end

section
variable {cfg : Cfg} {ops : List Oper} {bs : List (List Nat)} {k m : Nat} {s : St} {v : Nat → V} {hv : Nat → Nat → B}

def Sub (Y Z : Nat → Prop) : Prop := ∀ j, Y j → Z j

theorem Sg.dsts (g : Sg cfg ops bs k m s v hv) : Dsts ops fun j => k ≤ j ∧ j < m := by
  intro j o hj ho
  obtain ⟨o', d, h⟩ := g.all j hj.1 hj.2
  have := h.op; rw [ho] at this; injection this with this; subst this
  exact ⟨d, h.dst⟩

theorem Dsts.sub {X Y : Nat → Prop} (h : Dsts ops Y) (hs : Sub X Y) : Dsts ops X := fun j o hj ho => h j o (hs j hj) ho

theorem Sg.fresh (g : Sg cfg ops bs k m s v hv) {j n : Nat} (hj : k ≤ j ∧ j < m) (h : ownsAt ops j n) : s.h n = .free := by
  obtain ⟨o', d, hs⟩ := g.all j hj.1 hj.2
  obtain ⟨o, ho, hn⟩ := h
  have := hs.op; rw [ho] at this; injection this with this; subst this
  exact hs.fresh n hn

/-- What is live over fewer operations is the same over more. -/
theorem Sg.more (g : Sg cfg ops bs k m s v hv) {Y Z : Nat → Prop} (hYZ : Sub Y Z) (hZ : Sub Z fun j => k ≤ j ∧ j < m) {n : Nat} (hl : (hX ops s hv Y n).live = true) : hX ops s hv Z n = hX ops s hv Y n := by
  have DZ := g.dsts.sub hZ
  by_cases h : ∃ j, Y j ∧ ownsAt ops j n
  · obtain ⟨j, hj, ho⟩ := h
    rw [hX_of g.R DZ (hYZ j hj) ho, hX_of g.R (DZ.sub hYZ) hj ho]
  · rw [hX_not h] at hl ⊢
    rw [hX_not]
    rintro ⟨j, hj, ho⟩
    rw [g.fresh (hZ j hj) ho] at hl; cases hl

theorem Sg.base (g : Sg cfg ops bs k m s v hv) {Z : Nat → Prop} (hZ : Sub Z fun j => k ≤ j ∧ j < m) {n : Nat} (hl : (s.h n).live = true) : hX ops s hv Z n = s.h n := by
  rw [hX_not]
  rintro ⟨j, hj, ho⟩
  rw [g.fresh (hZ j hj) ho] at hl; cases hl

theorem Sg.vis_sub (g : Sg cfg ops bs k m s v hv) {i j : Nat} (hij : j ∈ befOf bs i) : Sub (visK bs k j) (befK bs k i) := by
  rintro l ⟨h1, rfl | h2⟩
  · exact ⟨h1, hij⟩
  · exact ⟨h1, bef_trans g.R.good g.R.back _ _ _ hij h2⟩

theorem Sg.bef_seg (g : Sg cfg ops bs k m s v hv) {i : Nat} (hi : i < m) : Sub (befK bs k i) fun j => k ≤ j ∧ j < m := fun j hj => ⟨hj.1, Nat.lt_trans (bef_lt g.R.good g.R.back _ _ hj.2) hi⟩

theorem Sg.vis_seg (g : Sg cfg ops bs k m s v hv) {i : Nat} (hi : i < m) : Sub (visK bs k i) fun j => k ≤ j ∧ j < m := by
  rintro j ⟨h1, rfl | h2⟩
  · exact ⟨h1, hi⟩
  · exact ⟨h1, Nat.lt_trans (bef_lt g.R.good g.R.back _ _ h2) hi⟩

theorem early_spec {j : Nat} (h : early bs ops j = true) : ∃ o d, ops[j]? = some o ∧ o.dst = some d ∧ handsOn o = true ∧ ∀ l p, ops[l]? = some p → l ≠ j → l ∉ befOf bs j → j ∉ edgesOf p → o.apart ops.toArray p = true := by
  unfold early at h
  split at h
  · rename_i o ho
    simp only [Bool.and_eq_true, List.all_eq_true, List.mem_range, Bool.or_eq_true] at h
    obtain ⟨⟨h1, h2⟩, h3⟩ := h
    obtain ⟨d, hd⟩ := Option.isSome_iff_exists.1 h1
    refine ⟨o, d, ho, hd, h2, fun l p hl hne hnb hned => ?_⟩
    have := h3 l (List.getElem?_eq_some_iff.1 hl).1
    rw [hl] at this
    rcases this with (h | h) | h
    · exact absurd (Nat.eq_of_beq_eq_true h) hne
    · exact absurd (any_beq.1 h) hnb
    · simp only [Bool.or_eq_true] at h
      rcases h with h | h
      · exact absurd (any_beq.1 h) hned
      · exact h
  · cases h

theorem early_owns {j n : Nat} (h : early bs ops j = true) : ¬ ownsAt ops j n := by
  rintro ⟨p, hp, hpn⟩
  obtain ⟨o, d, ho, _, hh, _⟩ := early_spec h
  rw [hp] at ho; injection ho with ho; subst ho
  unfold handsOn at hh
  split at hh <;> rename_i e <;> first | (simp [owns, ownK, e] at hpn; done) | cases hh

/-- What is kept from sight is free. -/
theorem Sg.rst_h (g : Sg cfg ops bs k m s v hv) {i : Nat} (hi : k ≤ i ∧ i < m) : (Rst ops bs k s v hv i).h = hX ops s hv (befK bs k i) := by
  funext n
  show (bif blindH bs i ops 0 n then B.free else hX ops s hv (befK bs k i) n) = _
  cases e : blindH bs i ops 0 n with
  | false => rfl
  | true =>
    obtain ⟨j, o, ho, hon, hl⟩ := blindH_iff.1 e
    rw [Nat.zero_add] at hl
    obtain ⟨hl, hji⟩ := hl
    obtain ⟨h1, h2, h3⟩ := loose_iff.1 hl
    have hj : k ≤ j ∧ j < m := by
      refine ⟨?_, by omega⟩
      refine Classical.byContradiction fun hno => ?_
      rcases g.pre i j hi.1 hi.2 (by omega) with h | h
      · exact h2 h
      · exact early_owns h ⟨o, ho, hon⟩
    rw [hX_not, g.fresh hj ⟨o, ho, hon⟩]; rfl
    rintro ⟨l, hbl, hol⟩
    have := ownsAt_inj g.R g.dsts (g.bef_seg hi.2 l hbl) hj hol ⟨o, ho, hon⟩
    exact h2 (this ▸ hbl.2)

section
variable {cx : Cx} {nt : Nat} {φ : Nat → Value} {S : Nat → Prop} {X : Nat → Prop} {a : Act} {w : World}

/-- The call's frame of one operation: what it may see that may be written is its own. -/
def cxOf (cx : Cx) (φ : Nat → Value) (S : Nat → Prop) (h : Nat → B) (w : World) : Cx := ⟨cx.glob, w, fun g => ∃ n, (h n).mut = true ∧ blk (φ n) = some g, S, φ⟩

theorem owned_kept (R : Reg ops bs) {j n : Nat} {d : Nat} {o : Oper} (ho : ops[j]? = some o) (hd : o.dst = some d) (h : owns o n = true) : isKept n = false := owns_kept hd (R.small o (List.mem_of_getElem? ho) d hd) h

theorem Inv.rst (g : Sg cfg ops bs k m s v hv) (I : Inv ops bs k m s v hv cx nt φ S X a w) (hX0 : Sub X fun j => k ≤ j ∧ j < m) {i : Nat} (hi : k ≤ i ∧ i < m) (hni : ¬ X i) (hb : Sub (befK bs k i) X) (hc : ∀ j, X j → i ∉ befOf bs j) :
    RelP (cxOf cx φ S (hX ops s hv (befK bs k i)) w) nt φ S (Rst ops bs k s v hv i) a w := by
  have hr := g.rst_h hi
  have DS := g.bef_seg hi.2
  have toH : ∀ n, (s.h n).live = true → (hX ops s hv (befK bs k i) n).live = true ∧ φ n = φ n := fun n hn => ⟨by rw [g.base DS hn]; exact hn, rfl⟩
  have upX : ∀ n, (hX ops s hv (befK bs k i) n).live = true → hX ops s hv X n = hX ops s hv (befK bs k i) n := fun n hn => g.more hb hX0 hn
  refine ⟨fun n => ?_, ⟨fun n => ?_, fun n l gg hnl hn hl h1 h2 => ?_, fun n gg hn h1 h2 => ?_, fun gg hg _ => .inl hg, I.i1.lt, fun gg hgl hl => ?_, fun n hn => ?_, fun n _ _ => rfl, ⟨rfl, rfl, rfl, Nat.le_refl _, fun _ _ _ => rfl⟩⟩, I.size, I.defers⟩
  · rw [hr]
    show RelV S w φ _ (bif blindT bs i ops 0 n then V.bad else tX ops s v (befK bs k i) n) _
    cases e : blindT bs i ops 0 n with
    | true => trivial
    | false =>
      simp only [cond_false]
      by_cases h : ∃ j, befK bs k i j ∧ dstAt ops j = some n
      · obtain ⟨j, hj, hd⟩ := h
        rw [tX_of g.R hj hd]
        refine RelV.mono (fun _ h => h) (fun _ _ => rfl) (fun l hl => ⟨?_, rfl⟩) (I.i5 j n (hb j hj) hd)
        rw [g.more (g.vis_sub hj.2) DS hl]; exact hl
      · rw [tX_not h]
        refine RelV.mono (fun _ h => h) (fun _ _ => rfl) toH (I.i4 n ?_)
        rintro ⟨j, hj, hd⟩
        obtain ⟨o, ho, hdo⟩ := dstAt_some.1 hd
        have : blindT bs i ops 0 n = true := blindT_iff.2 ⟨j, o, ho, hdo, by
          rw [Nat.zero_add]
          exact loose_iff.2 ⟨fun e => hni (e ▸ hj), fun h2 => h ⟨j, ⟨(hX0 j hj).1, h2⟩, hd⟩, hc j hj⟩⟩
        rw [e] at this; cases this
  · rw [hr]
    by_cases h : ∃ j, befK bs k i j ∧ ownsAt ops j n
    · obtain ⟨j, hj, ho⟩ := h
      have e : hX ops s hv (befK bs k i) n = hv j n := hX_of g.R (g.dsts.sub DS) hj ho
      rw [e]
      refine RelB.turn (fun _ h => h) (fun _ _ => rfl) (fun l hl => ⟨?_, rfl⟩) (fun hm gg hg => ⟨rfl, .inr ⟨n, by rw [e]; exact hm, hg⟩⟩) (I.i3 j (hb j hj) n ho)
      rw [g.more (g.vis_sub hj.2) DS hl]; exact hl
    · have e : hX ops s hv (befK bs k i) n = s.h n := hX_not h
      rw [e]
      by_cases h2 : ∃ j, (k ≤ j ∧ j < m) ∧ ownsAt ops j n
      · obtain ⟨j, hj, ho⟩ := h2; rw [g.fresh hj ho]; trivial
      · exact RelB.turn (fun _ h => h) (fun _ _ => rfl) toH (fun hm gg hg => ⟨rfl, .inr ⟨n, by rw [e]; exact hm, hg⟩⟩) (I.i2 n h2)
  · rw [hr] at hn hl
    exact I.i1.apart n l gg hnl (by rw [upX n (live_of_mut hn)]; exact hn) (by rw [upX l (live_of_mut hl)]; exact hl) h1 h2
  · rw [hr] at hn
    exact I.i1.sep n gg (by rw [upX n (live_of_mut hn)]; exact hn) h1 h2
  · rw [hr] at hl
    exact I.i1.glob gg hgl (by rw [upX _ hl]; exact hl)
  · rw [hr]
    have ng : ∀ j, (k ≤ j ∧ j < m) → ¬ ownsAt ops j n := by
      rintro j hj ⟨o, ho, hon⟩
      obtain ⟨o', d, hs⟩ := g.all j hj.1 hj.2
      have := hs.op; rw [ho] at this; injection this with this; subst this
      have := kept_glob (owned_kept g.R ho hs.dst hon)
      rw [this] at hn; cases hn
    rw [hX_not fun ⟨j, hj, ho⟩ => ng j (DS j hj) ho]
    have := I.i1.gl n hn
    rw [hX_not fun ⟨j, hj, ho⟩ => ng j (hX0 j hj) ho] at this
    exact this

/-- The invariant behind one operation. -/
theorem Inv.step (g : Sg cfg ops bs k m s v hv) (I : Inv ops bs k m s v hv cx nt φ S X a w) (hX0 : Sub X fun j => k ≤ j ∧ j < m) {i : Nat} (hi : k ≤ i ∧ i < m) (hni : ¬ X i) (hb : Sub (befK bs k i) X) (hc : ∀ j, X j → i ∉ befOf bs j) (hcl : ∀ j l, X j → befK bs k j l → X l)
    {o : Oper} {d : Nat} (hs : SegAt cfg ops bs k s v hv i o d) (hnt : cfg.n = nt)
    {φ' : Nat → Value} {S' : Nat → Prop} {w' : World} {val : Value} (mR : RelH (cxOf cx φ S (hX ops s hv (befK bs k i)) w) φ' S' (hX ops s hv (visK bs k i)) w') (lat : Later S S' w w' φ φ' (hX ops s hv (befK bs k i)) (hX ops s hv (visK bs k i)))
    (hval : RelV S' w' φ' (hX ops s hv (visK bs k i)) (v i) val) : ∃ φ2, Inv ops bs k m s v hv cx nt φ2 S' (fun j => X j ∨ j = i) (a.put o.dst val) w' := by
  have DB := g.bef_seg (i := i) hi.2
  have DV := g.vis_seg (i := i) hi.2
  have hX1 : Sub (fun j => X j ∨ j = i) fun j => k ≤ j ∧ j < m := by rintro j (hj | rfl); exact hX0 j hj; exact hi
  have hbv : Sub (befK bs k i) (visK bs k i) := fun j hj => ⟨hj.1, .inr hj.2⟩
  have hv1 : Sub (visK bs k i) fun j => X j ∨ j = i := by rintro j ⟨h1, rfl | h2⟩; exact .inr rfl; exact .inl (hb j ⟨h1, h2⟩)
  have own_i : ∀ n, owns o n = true → ownsAt ops i n := fun n hn => ⟨o, hs.op, hn⟩
  have vis_i : ∀ n, owns o n = true → hX ops s hv (visK bs k i) n = hv i n := fun n hn => hX_of g.R (g.dsts.sub DV) ⟨hi.1, .inl rfl⟩ (own_i n hn)
  have notown : ∀ {n}, owns o n = false → ¬ ownsAt ops i n := by
    rintro n hn ⟨p, hp, hpn⟩
    have := hs.op; rw [hp] at this; injection this with this; subst this
    rw [hn] at hpn; cases hpn
  have vis_o : ∀ n, owns o n = false → hX ops s hv (visK bs k i) n = hX ops s hv (befK bs k i) n := by
    intro n hn
    by_cases h : ∃ j, befK bs k i j ∧ ownsAt ops j n
    · obtain ⟨j, hj, ho⟩ := h
      rw [hX_of g.R (g.dsts.sub DV) (hbv j hj) ho, hX_of g.R (g.dsts.sub DB) hj ho]
    · rw [hX_not h, hX_not]
      rintro ⟨j, ⟨h1, rfl | h2⟩, ho⟩
      · exact notown hn ho
      · exact h ⟨j, ⟨h1, h2⟩, ho⟩
  have X1_i : ∀ n, owns o n = true → hX ops s hv (fun j => X j ∨ j = i) n = hv i n := fun n hn => hX_of g.R (g.dsts.sub hX1) (.inr rfl) (own_i n hn)
  have X1_o : ∀ n, owns o n = false → hX ops s hv (fun j => X j ∨ j = i) n = hX ops s hv X n := by
    intro n hn
    by_cases h : ∃ j, X j ∧ ownsAt ops j n
    · obtain ⟨j, hj, ho⟩ := h
      rw [hX_of g.R (g.dsts.sub hX1) (.inl hj) ho, hX_of g.R (g.dsts.sub hX0) hj ho]
    · rw [hX_not h, hX_not]
      rintro ⟨j, hj | rfl, ho⟩
      · exact h ⟨j, hj, ho⟩
      · exact notown hn ho
  have bef_i : ∀ n, owns o n = true → hX ops s hv (befK bs k i) n = .free := by
    intro n hn
    rw [hX_not, g.fresh hi (own_i n hn)]
    rintro ⟨j, hj, ho⟩
    have := ownsAt_inj g.R g.dsts (DB j hj) hi ho (own_i n hn)
    subst this
    exact absurd (bef_lt g.R.good g.R.back _ _ hj.2) (Nat.lt_irrefl _)
  have Xfree : ∀ n, owns o n = true → hX ops s hv X n = .free := by
    intro n hn
    rw [hX_not, g.fresh hi (own_i n hn)]
    rintro ⟨j, hj, ho⟩
    have := ownsAt_inj g.R g.dsts (hX0 j hj) hi ho (own_i n hn)
    exact hni (this ▸ hj)
  let φ2 : Nat → Value := fun n => bif owns o n then φ' n else φ n
  have φ2i : ∀ n, owns o n = true → φ2 n = φ' n := fun n hn => by show (bif owns o n then φ' n else φ n) = _; rw [hn]; rfl
  have φ2o : ∀ n, owns o n = false → φ2 n = φ n := fun n hn => by show (bif owns o n then φ' n else φ n) = _; rw [hn]; rfl
  have φ2X : ∀ n, (hX ops s hv X n).live = true → φ2 n = φ n := by
    intro n hn
    cases e : owns o n with
    | false => exact φ2o n e
    | true => rw [Xfree n e] at hn; cases hn
  have φ2v : ∀ n, (hX ops s hv (visK bs k i) n).live = true → φ2 n = φ' n := by
    intro n hn
    cases e : owns o n with
    | true => exact φ2i n e
    | false => rw [φ2o n e]; rw [vis_o n e] at hn; exact (lat.l n hn).2.symm
  have liveB : ∀ n, (s.h n).live = true → φ2 n = φ n := by
    intro n hn
    cases e : owns o n with
    | false => exact φ2o n e
    | true => rw [g.fresh hi (own_i n e)] at hn; cases hn
  have visX : ∀ j, X j → Sub (visK bs k j) fun j => k ≤ j ∧ j < m := fun j hj => g.vis_seg (hX0 j hj).2
  have liveJ : ∀ j, X j → ∀ n, (hX ops s hv (visK bs k j) n).live = true → φ2 n = φ n := by
    intro j hj n hn
    cases e : owns o n with
    | false => exact φ2o n e
    | true =>
      rw [hX_not, g.fresh hi (own_i n e)] at hn
      · cases hn
      · rintro ⟨l, ⟨h1, hl⟩, ho⟩
        have := ownsAt_inj g.R g.dsts (visX j hj l ⟨h1, hl⟩) hi ho (own_i n e)
        subst this
        rcases hl with rfl | hl
        · exact hni hj
        · exact hc j hj hl
  -- addresses
  have ownMut : ∀ gg, (cxOf cx φ S (hX ops s hv (befK bs k i)) w).own gg → ∃ n, owns o n = false ∧ (hX ops s hv (befK bs k i) n).mut = true ∧ blk (φ n) = some gg := by
    rintro gg ⟨n, hn, hg⟩
    refine ⟨n, ?_, hn, hg⟩
    cases e : owns o n with
    | false => rfl
    | true => rw [bef_i n e] at hn; cases hn
  have befX : ∀ n, (hX ops s hv (befK bs k i) n).live = true → hX ops s hv X n = hX ops s hv (befK bs k i) n := fun n hn => g.more hb hX0 hn
  have notS' : ∀ gg, (cxOf cx φ S (hX ops s hv (befK bs k i)) w).own gg → ¬ S' gg := by
    intro gg hg
    obtain ⟨n, h1, h2, h3⟩ := ownMut gg hg
    exact mR.sep n gg (by rw [vis_o n h1]; exact h2) (by rw [(lat.l n (live_of_mut h2)).2]; exact h3)
  have S'S : ∀ gg, S' gg → gg < w.heap.size → S gg := by
    intro gg hg hlt
    rcases mR.inS gg hg hlt with h | h
    · exact h
    · exact absurd hg (notS' gg h)
  -- a block of a name that may be written, and is not seen, stays
  have still : ∀ n gg, (hX ops s hv X n).mut = true → (hX ops s hv (befK bs k i) n).live = false → blk (φ n) = some gg → w'.heap[gg]? = w.heap[gg]? := by
    intro n gg hn hnl hg
    refine mR.keep.block gg (I.i1.blk_lt hn hg) fun ho => ?_
    obtain ⟨l, h1, h2, h3⟩ := ownMut gg ho
    refine I.i1.apart l n gg (fun e => ?_) (by rw [befX l (live_of_mut h2)]; exact h2) hn h3 hg
    subst e; rw [live_of_mut h2] at hnl; cases hnl
  have newOk : ∀ n gg, owns o n = true → (hv i n).mut = true → blk (φ' n) = some gg → w.heap.size ≤ gg := by
    intro n gg hn hm hg
    have hb' := mR.b n
    rw [vis_i n hn] at hb'
    rcases mut_ok hm hb' hg with h | h
    · exact h
    · obtain ⟨l, h1, h2, h3⟩ := ownMut gg h
      refine absurd (?_ : blk (φ' l) = some gg) (mR.apart n l gg (fun e => by subst e; rw [hn] at h1; cases h1) (by rw [vis_i n hn]; exact hm) (by rw [vis_o l h1]; exact h2) hg)
      rw [(lat.l l (live_of_mut h2)).2]; exact h3
  have okUp : ∀ gg, (cxOf cx φ S (hX ops s hv (befK bs k i)) w).ok gg → cx.ok gg := by
    intro gg hg
    rcases hg with h | h
    · exact .inl (Nat.le_trans I.i1.keep.size h)
    · obtain ⟨n, h1, h2, h3⟩ := ownMut gg h
      have hb' := I.i1.b n
      rw [befX n (live_of_mut h2)] at hb'
      exact mut_ok h2 hb' h3
  -- blocks of names that were there
  have oldB : ∀ (h0 : Nat → B) (n : Nat) (b : B), (∀ l, (h0 l).live = true → φ2 l = φ l) → owns o n = false → hX ops s hv X n = b → RelB S w φ h0 cx.ok (φ n) b → (∀ l, (hX ops s hv (befK bs k i) n).live = true → (h0 l).live = true → φ2 l = φ' l) → RelB S' w' φ2 h0 cx.ok (φ2 n) b := by
    intro h0 n b hφ hn hXn hr hvis
    rw [φ2o n hn]
    cases hm : b.mut with
    | false => exact RelB.turn lat.s lat.k (fun l hl => ⟨hl, hφ l hl⟩) (fun h => by rw [hm] at h; cases h) hr
    | true =>
      cases hl : (hX ops s hv (befK bs k i) n).live with
      | false => exact RelB.turn lat.s lat.k (fun l hl => ⟨hl, hφ l hl⟩) (fun _ gg hg => ⟨still n gg (by rw [hXn]; exact hm) hl hg, mut_ok hm hr hg⟩) hr
      | true =>
        have e : hX ops s hv (visK bs k i) n = b := by rw [vis_o n hn, ← befX n hl, hXn]
        have := mR.b n
        rw [e, (lat.l n hl).2] at this
        exact RelB.back (fun l hl2 => hvis l hl hl2) (fun h gg hg => mut_ok hm hr hg) this hr
  have i2' : ∀ n, (¬ ∃ j, (k ≤ j ∧ j < m) ∧ ownsAt ops j n) → RelB S' w' φ2 s.h cx.ok (φ2 n) (s.h n) := by
    intro n hn
    refine oldB s.h n (s.h n) liveB ?_ (hX_not fun ⟨j, hj, ho⟩ => hn ⟨j, hX0 j hj, ho⟩) (I.i2 n hn) (fun l _ hl => φ2v l ?_)
    · cases e : owns o n with
      | false => rfl
      | true => exact absurd ⟨i, hi, own_i n e⟩ hn
    · rw [g.base DV hl]; exact hl
  have i3' : ∀ j, X j ∨ j = i → ∀ n, ownsAt ops j n → RelB S' w' φ2 (hX ops s hv (visK bs k j)) cx.ok (φ2 n) (hv j n) := by
    rintro j (hj | rfl) n ho
    · have hn : owns o n = false := by
        cases e : owns o n with
        | false => rfl
        | true => exact absurd (ownsAt_inj g.R g.dsts (hX0 j hj) hi ho (own_i n e)) (fun e => hni (e ▸ hj))
      refine oldB _ n (hv j n) (liveJ j hj) hn (hX_of g.R (g.dsts.sub hX0) hj ho) (I.i3 j hj n ho) (fun l hl hl2 => φ2v l ?_)
      -- n is seen: so j comes before i
      have hji : j ∈ befOf bs i := by
        refine Classical.byContradiction fun hno => ?_
        rw [hX_not, g.fresh (hX0 j hj) ho] at hl
        · cases hl
        · rintro ⟨l', hl', ho'⟩
          have := ownsAt_inj g.R g.dsts (DB l' hl') (hX0 j hj) ho' ho
          exact hno (this ▸ hl'.2)
      rw [g.more (Y := visK bs k j) (Z := visK bs k i) (fun x hx => hbv x (g.vis_sub hji x hx)) DV hl2]; exact hl2
    · obtain ⟨p, hp, hpn⟩ := ho
      have := hs.op; rw [hp] at this; injection this with this; subst this
      have hb' := mR.b n
      rw [vis_i n hpn] at hb'
      rw [φ2i n hpn]
      exact RelB.turn (fun _ h => h) (fun _ _ => rfl) (fun l hl => ⟨hl, φ2v l hl⟩) (fun hm gg hg => ⟨rfl, okUp gg (mut_ok hm hb' hg)⟩) hb'
  refine ⟨φ2, ⟨by simp [Act.put, I.size, hs.dst], by rw [hs.dst]; exact I.defers, ⟨fun n => ?_, fun n l gg hnl hn hl h1 h2 => ?_, fun n gg hn hg hS => ?_, fun gg hg hlt => ?_, mR.lt, fun gg hgl hl => ?_, fun n hn => ?_, fun n hk hl => ?_, ?_⟩, i2', i3', fun n hn => ?_, fun j e hj hd => ?_⟩⟩
  · by_cases h : ∃ j, (X j ∨ j = i) ∧ ownsAt ops j n
    · obtain ⟨j, hj, ho⟩ := h
      rw [hX_of g.R (g.dsts.sub hX1) hj ho]
      refine RelB.mono (fun _ h => h) (fun _ _ => rfl) (fun l hl => ⟨?_, rfl⟩) (fun _ _ _ => rfl) (i3' j hj n ho)
      rw [g.more (Y := visK bs k j) ?_ hX1 hl]; exact hl
      rintro l ⟨h1, rfl | h2⟩
      · exact hj
      · rcases hj with hj | rfl
        · exact .inl (hcl j l hj ⟨h1, h2⟩)
        · exact .inl (hb l ⟨h1, h2⟩)
    · rw [hX_not h]
      by_cases h2 : ∃ j, (k ≤ j ∧ j < m) ∧ ownsAt ops j n
      · obtain ⟨j, hj, ho⟩ := h2; rw [g.fresh hj ho]; trivial
      · exact RelB.mono (fun _ h => h) (fun _ _ => rfl) (fun l hl => ⟨by rw [g.base hX1 hl]; exact hl, rfl⟩) (fun _ _ _ => rfl) (i2' n h2)
  · cases en : owns o n with
    | false =>
      rw [X1_o n en] at hn
      rw [φ2o n en] at h1
      cases el : owns o l with
      | false => rw [X1_o l el] at hl; rw [φ2o l el] at h2; exact I.i1.apart n l gg hnl hn hl h1 h2
      | true =>
        rw [X1_i l el] at hl; rw [φ2i l el] at h2
        exact absurd (I.i1.blk_lt hn h1) (Nat.not_lt.2 (newOk l gg el hl h2))
    | true =>
      rw [X1_i n en] at hn
      rw [φ2i n en] at h1
      cases el : owns o l with
      | false =>
        rw [X1_o l el] at hl; rw [φ2o l el] at h2
        exact absurd (I.i1.blk_lt hl h2) (Nat.not_lt.2 (newOk n gg en hn h1))
      | true =>
        rw [X1_i l el] at hl; rw [φ2i l el] at h2
        exact mR.apart n l gg hnl (by rw [vis_i n en]; exact hn) (by rw [vis_i l el]; exact hl) h1 h2
  · cases en : owns o n with
    | false =>
      rw [X1_o n en] at hn
      rw [φ2o n en] at hg
      exact I.i1.sep n gg hn hg (S'S gg hS (I.i1.blk_lt hn hg))
    | true =>
      rw [X1_i n en] at hn
      rw [φ2i n en] at hg
      exact mR.sep n gg (by rw [vis_i n en]; exact hn) hg hS
  · exact I.i1.inS gg (S'S gg hg (Nat.lt_of_lt_of_le hlt I.i1.keep.size)) hlt
  · have en : owns o (gname gg) = false := by
      cases e : owns o (gname gg) with
      | false => rfl
      | true => rw [kept_glob (owned_kept g.R hs.op hs.dst e)] at hgl; cases hgl
    rw [φ2o _ en]; rw [X1_o _ en] at hl
    exact I.i1.glob gg hgl hl
  · have en : owns o n = false := by
      cases e : owns o n with
      | false => rfl
      | true => rw [kept_glob (owned_kept g.R hs.op hs.dst e)] at hn; cases hn
    rw [X1_o _ en]
    exact I.i1.gl n hn
  · have en : owns o n = false := by
      cases e : owns o n with
      | false => rfl
      | true => rw [owned_kept g.R hs.op hs.dst e] at hk; cases hk
    rw [φ2o _ en]; rw [X1_o _ en] at hl
    exact I.i1.kp n hk hl
  · refine I.i1.keep.step mR.keep.os mR.keep.tape mR.keep.output mR.keep.size fun gg hg hno => mR.keep.block gg hg fun ho => hno (okUp gg (.inr ho))
  · have hnd : n ≠ d := by
      rintro rfl
      exact hn ⟨i, .inr rfl, by simp [dstAt, hs.op, hs.dst]⟩
    have : (a.put o.dst val).tmps.getD n undef = a.tmps.getD n undef := by rw [hs.dst]; simp [Act.put, Array.getElem?_setIfInBounds_ne (Ne.symm hnd)]
    rw [this]
    exact RelV.mono lat.s lat.k (fun l hl => ⟨hl, liveB l hl⟩) (I.i4 n fun ⟨j, hj, hd⟩ => hn ⟨j, .inl hj, hd⟩)
  · rcases hj with hj | rfl
    · have hnd : e ≠ d := by
        rintro rfl
        exact hni (dst_inj g.R.dist hd (show dstAt ops i = some e by simp [dstAt, hs.op, hs.dst]) ▸ hj)
      have : (a.put o.dst val).tmps.getD e undef = a.tmps.getD e undef := by rw [hs.dst]; simp [Act.put, Array.getElem?_setIfInBounds_ne (Ne.symm hnd)]
      rw [this]
      exact RelV.mono lat.s lat.k (fun l hl => ⟨hl, liveJ j hj l hl⟩) (I.i5 j e hj hd)
    · have : e = d := by simpa [dstAt, hs.op, hs.dst] using hd.symm
      subst this
      have : (a.put o.dst val).tmps.getD e undef = val := by rw [hs.dst]; simp [Act.put, I.size, ← hnt, hs.lt]
      rw [this]
      exact RelV.mono (fun _ h => h) (fun _ _ => rfl) (fun l hl => ⟨hl, φ2v l hl⟩) hval
end
end
end Go.Proofs.Ytcijmfodhdigpaa.R1
