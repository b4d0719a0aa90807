/- Calls in a state of which less is known; what a call writes. -/
import Derived.Test.YtkimeoknckohfaaDoorR1Frame
namespace Go.Proofs.YtkimeoknckohfaaDoor.R1

section
variable {b : Nat → Bool} {h h' : Nat → B}

/-- What reading adds. -/
structure Adds (h : Nat → B) (r r' : Ren) : Prop where
  map : ∀ p ∈ r.map, p ∈ r'.map
  frz : ∀ z ∈ r'.frz, z ∈ r.frz ∨ h z ≠ .gone

theorem Adds.refl (r : Ren) : Adds h r r := ⟨fun _ h => h, fun _ h => .inl h⟩
theorem Adds.trans {r1 r2 r3 : Ren} (a : Adds h r1 r2) (c : Adds h r2 r3) : Adds h r1 r3 := ⟨fun p hp => c.map p (a.map p hp), fun z hz => (c.frz z hz).elim (a.frz z) .inr⟩

theorem ckExt_adds : ∀ {k : CK} {c : C} {r r' : Ren} {x : k.T}, k.ext h c r = some (x, r') → Adds h r r' := by
  intro k
  induction k with
  | sl u =>
    intro c r r' x hx
    simp only [CK.ext] at hx
    split at hx
    · rename_i y e1
      injection hx with hx; injection hx with _ hx; subst hx
      cases c with
      | row m => exact ⟨fun _ h => h, fun z hz => by rcases List.mem_cons.1 hz with rfl | hz; exact .inr (dataSl_seen e1); exact .inl hz⟩
      | _ => exact .refl _
    · cases hx
  | slx u =>
    intro c r r' x hx
    simp only [CK.ext] at hx
    split at hx
    · split at hx
      · injection hx with hx; injection hx with _ hx; subst hx; exact .refl _
      · cases hx
    · cases hx
  | row n =>
    intro c r r' x hx
    simp only [CK.ext] at hx
    split at hx
    · injection hx with hx; injection hx with _ hx; subst hx; exact ⟨fun _ h => List.mem_cons_of_mem _ h, fun _ h => .inl h⟩
    · injection hx with hx; injection hx with _ hx; subst hx; exact ⟨fun _ h => List.mem_cons_of_mem _ h, fun _ h => .inl h⟩
    · cases hx
  | mapr n =>
    intro c r r' x hx
    simp only [CK.ext] at hx
    split at hx
    · injection hx with hx; injection hx with _ hx; subst hx; exact ⟨fun _ h => List.mem_cons_of_mem _ h, fun _ h => .inl h⟩
    · injection hx with hx; injection hx with _ hx; subst hx; exact ⟨fun _ h => List.mem_cons_of_mem _ h, fun _ h => .inl h⟩
    · cases hx
  | mapl n =>
    intro c r r' x hx
    simp only [CK.ext] at hx
    split at hx
    · rename_i b m
      cases e : sameName r.map n m with
      | false => rw [e] at hx; cases hx
      | true => rw [e] at hx; injection hx with hx; injection hx with _ hx; subst hx; exact .refl _
    · cases hx
  | tail n sz =>
    intro c r r' x hx
    simp only [CK.ext] at hx
    split at hx
    · rename_i m i sz'
      cases e : sameName r.map n m && Nat.beq sz' sz with
      | false => rw [e] at hx; cases hx
      | true => rw [e] at hx; injection hx with hx; injection hx with _ hx; subst hx; exact .refl _
    · cases hx
  | box n =>
    intro c r r' x hx
    simp only [CK.ext] at hx
    split at hx
    · split at hx
      · injection hx with hx; injection hx with _ hx; subst hx; exact ⟨fun _ h => List.mem_cons_of_mem _ h, fun _ h => .inl h⟩
      · cases hx
    · cases hx
  | dp u =>
    intro c r r' x hx
    simp only [CK.ext] at hx
    split at hx
    · split at hx
      · split at hx
        · injection hx with hx; injection hx with _ hx; subst hx; exact .refl _
        · cases hx
      · cases hx
    · split at hx
      · rename_i tt cs hm
        split at hx
        · rename_i y e1
          injection hx with hx; injection hx with _ hx; subst hx
          refine ⟨fun _ h => h, fun z hz => ?_⟩
          rcases List.mem_cons.1 hz with rfl | hz
          · exact .inr (by rw [hm]; simp)
          · rcases List.mem_append.1 hz with hz | hz
            · exact .inr (datum_seen e1 z hz)
            · exact .inl hz
        · cases hx
      · cases hx
    · cases hx
  | lit c0 =>
    intro c r r' x hx
    simp only [CK.ext] at hx
    cases e : litEq r.map c0 c with
    | false => rw [e] at hx; cases hx
    | true => rw [e] at hx; injection hx with hx; injection hx with _ hx; subst hx; exact .refl _
  | cap g c ihg ihc =>
    intro c' r r' x hx
    simp only [CK.ext] at hx
    split at hx
    · split at hx
      · rename_i y r1 e1
        split at hx
        · rename_i z r2 e2
          injection hx with hx; injection hx with _ hx; subst hx
          exact (ihg e1).trans (ihc e2)
        · cases hx
      · cases hx
    · cases hx
  | int k =>
    intro c r r' x hx
    simp only [CK.ext] at hx
    split at hx
    · split at hx
      · injection hx with hx; injection hx with _ hx; subst hx; exact .refl _
      · cases hx
    · cases hx
  | bool =>
    intro c r r' x hx
    simp only [CK.ext] at hx
    split at hx
    · injection hx with hx; injection hx with _ hx; subst hx; exact .refl _
    · cases hx
  | str =>
    intro c r r' x hx
    simp only [CK.ext] at hx
    split at hx
    · injection hx with hx; injection hx with _ hx; subst hx; exact .refl _
    · cases hx

theorem cksExt_adds : ∀ {ks : List CK} {cs : List C} {r r' : Ren} {x : CKsT ks}, CKsExt h ks cs r = some (x, r') → Adds h r r' := by
  intro ks
  induction ks with
  | nil =>
    intro cs r r' x hx
    cases cs with
    | nil => simp only [CKsExt] at hx; injection hx with hx; injection hx with _ hx; subst hx; exact .refl _
    | cons => cases hx
  | cons k ks ih =>
    intro cs r r' x hx
    simp only [CKsExt] at hx
    split at hx
    · split at hx
      · rename_i y r1 e1
        split at hx
        · rename_i z r2 e2
          injection hx with hx; injection hx with _ hx; subst hx
          exact (ckExt_adds e1).trans (ih e2)
        · cases hx
      · cases hx
    · cases hx

theorem vkExt_adds {k : VK} {v : V} {r r' : Ren} {x : k.T} (hx : k.ext h v r = some (x, r')) : Adds h r r' := by
  cases k with
  | c k =>
    simp only [VK.ext] at hx
    split at hx
    · exact ckExt_adds hx
    · cases hx
  | agg ks =>
    simp only [VK.ext] at hx
    split at hx
    · exact cksExt_adds hx
    · cases hx

theorem vksExt_adds {st : St} : ∀ {ts : List (Nat × VK)} {r r' : Ren} {x : VKsT ts}, VKsExt st ts r = some (x, r') → Adds st.h r r' := by
  intro ts
  induction ts with
  | nil => intro r r' x hx; simp only [VKsExt] at hx; injection hx with hx; injection hx with _ hx; subst hx; exact .refl _
  | cons p ts ih =>
    obtain ⟨i, k⟩ := p
    intro r r' x hx
    simp only [VKsExt] at hx
    split at hx
    · rename_i y r1 e1
      split at hx
      · rename_i z r2 e2
        injection hx with hx; injection hx with _ hx; subst hx
        exact (vkExt_adds e1).trans (ih e2)
      · cases hx
    · cases hx

theorem bkExt_adds {k : BK} {m : Option Nat} {r r' : Ren} {x : k.T} (hx : k.ext h m r = some (x, r')) : Adds h r r' := by
  cases k with
  | row e u =>
    cases m with
    | none =>
      simp only [BK.ext] at hx
      split at hx
      · injection hx with hx; injection hx with _ hx; subst hx; exact .refl _
      · cases hx
    | some m =>
      simp only [BK.ext] at hx
      split at hx
      · rename_i e' u' y hm
        cases q : Nat.beq e' e with
        | false => rw [q] at hx; cases hx
        | true =>
          rw [q] at hx
          simp only [cond_true] at hx
          split at hx
          · injection hx with hx; injection hx with _ hx; subst hx; exact .refl _
          · cases hx
      · cases hx
  | box t ks =>
    cases m with
    | none => cases hx
    | some m =>
      simp only [BK.ext] at hx
      split at hx
      · rename_i t' cs hm
        cases e : Nat.beq t' t with
        | false => rw [e] at hx; cases hx
        | true => rw [e] at hx; exact cksExt_adds hx
      · cases hx
  | mp t ka va ku vu =>
    cases m with
    | none =>
      simp only [BK.ext] at hx
      split at hx
      · injection hx with hx; injection hx with _ hx; subst hx; exact .refl _
      · cases hx
    | some m =>
      simp only [BK.ext] at hx
      split at hx
      · rename_i t' ka' va' ku' vu' y hm
        cases q : Nat.beq t' t && sameB ka' ka && sameB va' va with
        | false => rw [q] at hx; cases hx
        | true =>
          rw [q] at hx
          simp only [cond_true] at hx
          split at hx
          · injection hx with hx; injection hx with _ hx; subst hx; exact .refl _
          · cases hx
      · cases hx
  | own e o =>
    cases m with
    | none =>
      simp only [BK.ext] at hx
      split at hx
      · injection hx with hx; injection hx with _ hx; subst hx; exact .refl _
      · cases hx
    | some m =>
      simp only [BK.ext] at hx
      split at hx
      · rename_i e' u' y hm
        cases q : Nat.beq e' e with
        | false => rw [q] at hx; cases hx
        | true =>
          rw [q] at hx
          simp only [cond_true] at hx
          split at hx
          · injection hx with hx; injection hx with _ hx; subst hx; exact .refl _
          · cases hx
      · cases hx

theorem bksExt_adds : ∀ {bs : List (Nat × BK)} {r r' : Ren} {x : BKsT bs}, BKsExt h bs r = some (x, r') → Adds h r r' ∧ ∀ n k, (n, k) ∈ bs → ∃ m, (n, m) ∈ r'.map ∧ ∀ m', m = some m' → h m' ≠ .gone := by
  intro bs
  induction bs with
  | nil => intro r r' x hx; simp only [BKsExt] at hx; injection hx with hx; injection hx with _ hx; subst hx; exact ⟨.refl _, fun n k h => by cases h⟩
  | cons p bs ih =>
    obtain ⟨n, k⟩ := p
    intro r r' x hx
    simp only [BKsExt] at hx
    split at hx
    · rename_i m em
      split at hx
      · rename_i y r1 e1
        split at hx
        · rename_i z r2 e2
          injection hx with hx; injection hx with _ hx; subst hx
          have a1 := bkExt_adds e1
          obtain ⟨a2, a3⟩ := ih e2
          refine ⟨a1.trans a2, fun n' k' hk => ?_⟩
          rcases List.mem_cons.1 hk with hk | hk
          · injection hk with h1 h2; subst h1; subst h2
            exact ⟨m, a2.map _ (a1.map _ (assoc_mem em)), fun m' hm => by subst hm; exact bkExt_seen e1⟩
          · exact a3 n' k' hk
        · cases hx
      · cases hx
    · cases hx

theorem ext_seen {s : Spec} {t : Nat → V} {x : s.V} {r : Ren} (hx : s.ext ⟨t, h⟩ = some (x, r)) : (∀ z ∈ r.frz, h z ≠ .gone) ∧ ∀ m ∈ actuals r.map, h m ≠ .gone := by
  obtain ⟨r1, e1, e2, hn⟩ := ext_some hx
  have a1 := vksExt_adds e1
  obtain ⟨a2, a3⟩ := bksExt_adds e2
  refine ⟨fun z hz => ?_, fun m hm => ?_⟩
  · rcases (a1.trans a2).frz z hz with hz | hz
    · cases hz
    · exact hz
  · obtain ⟨n, hn'⟩ := mem_actuals.1 hm
    obtain ⟨k, hk⟩ := Option.isSome_iff_exists.1 (hn.blocks _ hn')
    obtain ⟨m2, h2, h3⟩ := a3 n k (assoc_mem hk)
    have q1 := assoc_of_mem hn.d1 hn'
    have q2 := assoc_of_mem hn.d1 h2
    rw [q1] at q2; injection q2 with q2
    exact h3 m q2.symm

theorem merge_goneAll (h' : Nat → B) : ∀ {map : List (Nat × Option Nat)} {h : Nat → B}, (∀ m ∈ actuals map, b m = false) → goneAll (merge b h h') map = merge b (goneAll h map) h'
  | [], h, _ => rfl
  | (n, none) :: map, h, hm => merge_goneAll h' (map := map) hm
  | (n, some m) :: map, h, hm => by
    simp only [goneAll]
    rw [← merge_upd (hm m (by simp [actuals]))]
    exact merge_goneAll h' fun k hk => hm k (by simp [actuals, hk])

theorem merge_putBack (h' : Nat → B) {nm : List (Nat × Nat)} : ∀ {bs : List (Nat × BK)} (x : BKsT bs) {h : Nat → B}, (∀ p ∈ bs, b (renN nm p.1) = false) → putBack nm (merge b h h') bs x = merge b (putBack nm h bs x) h'
  | [], x, h, _ => rfl
  | (n, k) :: bs, x, h, hm => by
    simp only [putBack]
    rw [merge_upd (hm (n, k) (by simp)), merge_putBack h' x.2 fun p hp => hm p (List.mem_cons_of_mem _ hp)]

theorem LeH.freeAll (l : LeH b h h') {map : List (Nat × Option Nat)} : ∀ {nm : List (Nat × Nat)}, R1.freeAll h map nm = true → R1.freeAll h' map nm = true
  | [], _ => rfl
  | (n, m) :: nm, hf => by
    simp only [R1.freeAll, Bool.and_eq_true] at hf ⊢
    refine ⟨?_, l.freeAll hf.2⟩
    have h1 := hf.1
    split
    · rfl
    · rename_i hno
      split at h1
      · rename_i x e; exact absurd e (hno x)
      · split at h1
        · rename_i e1 e2; rw [l.at e1 (by simp), e2]
        · cases h1

theorem renN_mem {nm : List (Nat × Nat)} {n : Nat} (hn : n ∈ nm.map (·.1)) : (n, renN nm n) ∈ nm := by
  have : ∃ m, assoc nm n = some m := by
    induction nm with
    | nil => cases hn
    | cons p nm ih =>
      obtain ⟨i, j⟩ := p
      simp only [assoc]
      cases e : Nat.beq i n with
      | true => exact ⟨j, rfl⟩
      | false =>
        rcases List.mem_cons.1 hn with hn | hn
        · subst hn; rw [Nat.beq_refl] at e; cases e
        · exact ih hn
  obtain ⟨m, hm⟩ := this
  unfold renN
  rw [hm]; exact assoc_mem hm

/-- The names behind a call. -/
theorem back_seen {map : List (Nat × Option Nat)} {dst : Nat} {bs : List (Nat × BK)} (hf : freeAll h map (backNames map dst bs 0) = true) (hact : ∀ m ∈ actuals map, h m ≠ .gone) : ∀ p ∈ bs, h (renN (backNames map dst bs 0) p.1) ≠ .gone := by
  intro p hp
  have hm := renN_mem (nm := backNames map dst bs 0) (n := p.1) (by rw [backNames_fst]; exact List.mem_map.2 ⟨p, hp, rfl⟩)
  rcases backNames_kept _ _ _ _ hm with hq | hq
  · exact hact _ (mem_actuals.2 ⟨_, assoc_mem hq⟩)
  · rw [(freeAll_mem hf hm hq).1]; simp

theorem callEnt_frame {st st' : St} (l : LeH b st.h st'.h) {k dst : Nat} {args : List V} {e : Entry} {v : V} {s1 : St} (hx : callEnt k st dst args e (fun v s => some (v, s)) none = some (v, s1)) :
    callEnt k st' dst args e (fun v s => some (v, s)) none = some (v, ⟨st'.t, merge b s1.h st'.h⟩) := by
  unfold callEnt at hx ⊢
  split at hx
  · rename_i y r hext hlen
    obtain ⟨o, ho, hx⟩ := Option.bind_eq_some_iff.1 hx
    simp only [l.ext hext, hlen, ho, Option.bind_some]
    split at hx
    · rename_i h1 h2
      injection hx with hx; injection hx with hx1 hx2; subst hx1; subst hx2
      obtain ⟨sf, sa⟩ := ext_seen hext
      simp only [l.freeAll h1, h2]
      refine congrArg some ?_
      refine Prod.ext rfl ?_
      simp only [St.mk.injEq, true_and]
      have hb := fun p hp => l.seen (back_seen h1 sa p hp)
      have ha := fun m hm => l.seen (sa m hm)
      cases e.res.flat with
      | true =>
        simp only
        rw [← merge_putBack _ _ hb, ← merge_goneAll _ ha, l.merge]
      | false =>
        simp only
        rw [← merge_putBack _ _ hb, ← merge_goneAll _ ha, ← merge_freezeAll _ _ fun n hn => l.seen (sf n hn), l.merge]
    · cases hx
  · cases hx

theorem callEnt_touch {st : St} {k dst f : Nat} {args : List V} {e : Entry} {v : V} {s1 : St} (hid : Nat.beq e.id f = true) (hx : callEnt k st dst args e (fun v s => some (v, s)) none = some (v, s1)) :
    s1.t = st.t ∧ ∀ n, n ∉ touchCall st dst f args [e] → s1.h n = st.h n := by
  unfold callEnt at hx
  simp only [touchCall, hid]
  split at hx
  · rename_i y r hext hlen
    obtain ⟨o, ho, hx⟩ := Option.bind_eq_some_iff.1 hx
    split at hx
    · rename_i h1 h2
      injection hx with hx; injection hx with hx1 hx2; subst hx1; subst hx2
      refine ⟨rfl, fun n hn => ?_⟩
      simp only [List.mem_append, not_or] at hn
      obtain ⟨n1, n2, n3⟩ := hn
      show putBack _ _ _ _ n = _
      rw [putBack_eq _ _ _ fun p hp he => n3 (List.mem_map.2 ⟨_, renN_mem (nm := backNames r.map dst e.res.blocks 0) (n := p.1) (by rw [backNames_fst]; exact List.mem_map.2 ⟨p, hp, rfl⟩), he⟩), (goneAll_eq _ _ n).2 n1]
      cases e1 : e.res.flat with
      | true => rfl
      | false => rw [e1] at n2; exact freezeAll_out _ _ _ n2
    · cases hx
  · cases hx

theorem callIn_one {k : Nat} {st : St} {dst f : Nat} {args : List V} {v : V} {s1 : St} : ∀ {es : List Entry}, callIn k st dst f args (fun v s => some (v, s)) es = some (v, s1) →
    ∃ e ∈ es, Nat.beq e.id f = true ∧ callEnt k st dst args e (fun v s => some (v, s)) none = some (v, s1) ∧ touchCall st dst f args es = touchCall st dst f args [e]
  | [], hx => by cases hx
  | e :: es, hx => by
    simp only [callIn] at hx
    split at hx
    · rename_i hid
      cases hext : e.ar.ext ⟨ofList args, st.h⟩ with
      | none =>
        have hx' : callIn k st dst f args (fun v s => some (v, s)) es = some (v, s1) := by unfold callEnt at hx; rw [hext] at hx; exact hx
        obtain ⟨e', h1, h2, h3, h4⟩ := callIn_one hx'
        refine ⟨e', List.mem_cons_of_mem _ h1, h2, h3, ?_⟩
        rw [← h4]
        show (match Nat.beq e.id f with | true => _ | false => _) = _
        rw [hid]; simp only [hext]
      | some q =>
        obtain ⟨y, r⟩ := q
        cases hlen : Nat.beq args.length e.ar.temps.length with
        | false =>
          have hx' : callIn k st dst f args (fun v s => some (v, s)) es = some (v, s1) := by unfold callEnt at hx; simp only [hext, hlen] at hx; exact hx
          obtain ⟨e', h1, h2, h3, h4⟩ := callIn_one hx'
          refine ⟨e', List.mem_cons_of_mem _ h1, h2, h3, ?_⟩
          rw [← h4]
          show (match Nat.beq e.id f with | true => _ | false => _) = _
          rw [hid]; simp only [hext, hlen]
        | true =>
          refine ⟨e, by simp, hid, ?_, ?_⟩
          · unfold callEnt at hx ⊢; simp only [hext, hlen] at hx ⊢; exact hx
          · simp only [touchCall, hid, hext, hlen]
    · rename_i hid
      obtain ⟨e', h1, h2, h3, h4⟩ := callIn_one hx
      refine ⟨e', List.mem_cons_of_mem _ h1, h2, h3, ?_⟩
      rw [← h4]
      show (match Nat.beq e.id f with | true => _ | false => _) = _
      rw [hid]
end
end Go.Proofs.YtkimeoknckohfaaDoor.R1
