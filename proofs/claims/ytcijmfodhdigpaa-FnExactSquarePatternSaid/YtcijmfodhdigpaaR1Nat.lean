/- An operation's run goes on in any way alike. -/
import Derived.Test.YtcijmfodhdigpaaR1FnSound
namespace Go.Proofs.Ytcijmfodhdigpaa.R1
variable {ρ : Type}

theorem cond_bind {α β : Type} (c : Bool) (a b : Option α) (f : α → Option β) : (bif c then a else b).bind f = bif c then a.bind f else b.bind f := by cases c <;> rfl

theorem bind_nat {α β γ : Type} (x : Option α) (f : α → Option β) (g : β → Option γ) : (x.bind f).bind g = x.bind fun y => (f y).bind g := by cases x <;> rfl

theorem intBin_nat (op : BinOp) (k : IntKind) (x y : Int) (κ : C → Option ρ) : intBin op k x y κ = (intBin op k x y some).bind κ := by
  cases op <;> simp only [intBin, cond_bind, Option.bind_some, Option.bind_none]

theorem strBin_nat (op : BinOp) (x y : ByteArray) (κ : C → Option ρ) : strBin op x y κ = (strBin op x y some).bind κ := by
  cases op <;> simp only [strBin, cond_bind, Option.bind_some, Option.bind_none]

theorem bin_nat (tt : TT) (t : Nat) (op : BinOp) (x y : V) (κ : C → Option ρ) : bin tt t op x y κ = (bin tt t op x y some).bind κ := by
  unfold bin
  split
  · split
    · exact intBin_nat ..
    · exact intBin_nat ..
    · split
      · exact intBin_nat ..
      · rfl
  · exact strBin_nat ..
  · split <;> rfl
  · split <;> rfl
  · split <;> rfl
  · split <;> rfl
  · rfl

theorem un_nat (op : UnOp) (x : V) (κ : C → Option ρ) : un op x κ = (un op x some).bind κ := by
  unfold un; split <;> rfl

theorem load_nat (st : St) (i : TI) (a : C) (κ : V → Option ρ) : load st i a κ = (load st i a some).bind κ := by
  unfold load
  split
  · rename_i n j sz off
    split
    · split
      · split <;> rfl
      · rfl
    · rename_i u l _
      cases Nat.beq sz u.n
      · rfl
      · cases l[j]? with
        | none => rfl
        | some x => simp only [cond_true, Option.bind_some]; split
                    · split <;> rfl
                    · rfl
    · rename_i u l _
      cases Nat.beq sz u.n
      · rfl
      · cases l[j]? with
        | none => rfl
        | some x => simp only [cond_true, Option.bind_some]; split
                    · split <;> rfl
                    · rfl
    · rfl
  · split
    · split <;> rfl
    · rfl
  · rfl

theorem newBlock_nat (st : St) (n : Nat) (b : B) (κ : St → Option ρ) : newBlock st n b κ = (newBlock st n b some).bind κ := by
  unfold newBlock; split <;> rfl

theorem newRow_nat (st : St) (n e : Nat) (u : U) (l : List (El u)) (κ : St → Option ρ) : newRow st n e u l κ = (newRow st n e u l some).bind κ := by
  unfold newRow; split
  · exact newBlock_nat ..
  · rfl

theorem indexAddr_nat (st : St) (i : TI) (esz : Nat) (x : C) (j : Int) (κ : C → Option ρ) : indexAddr st i esz x j κ = (indexAddr st i esz x j some).bind κ := by
  unfold indexAddr
  split
  · split
    · simp only [bind_nat, Option.bind_some]
    · rfl
  · split
    · split
      · simp only [cond_bind, Option.bind_some, Option.bind_none]
      · rfl
    · split
      · simp only [cond_bind, Option.bind_some, Option.bind_none]
      · rfl
    · rfl
  · split
    · split
      · simp only [cond_bind, Option.bind_some, Option.bind_none]
      · rfl
    · rfl
  · split
    · split
      · simp only [cond_bind, Option.bind_some, Option.bind_none]
      · rfl
    · split
      · simp only [cond_bind, Option.bind_some, Option.bind_none]
      · rfl
    · split
      · simp only [cond_bind, Option.bind_some, Option.bind_none]
      · rfl
    · rfl
  · rfl

/-- What a quiet operation does: the state is kept but for the operation's own new names. -/
structure Quiet (own : Nat → Bool) (st st' : St) : Prop where
  t : st'.t = st.t
  h : ∀ n, ((st.h n).live = true ∨ own n = false) → st'.h n = st.h n

theorem Quiet.refl (own : Nat → Bool) (st : St) : Quiet own st st := ⟨rfl, fun _ _ => rfl⟩

theorem Quiet.of {own own' : Nat → Bool} {st st' : St} (q : Quiet own st st') (h : ∀ n, own' n = false → own n = false) : Quiet own' st st' := ⟨q.t, fun n hn => q.h n (hn.imp id (h n))⟩

theorem callEnt_nat (k : Nat) (st : St) (dst : Nat) (args : List V) (e : Entry) (κ : V → St → Option ρ) (other : Option ρ) (other' : Option (V × St)) (ho : other = other'.bind fun p => κ p.1 p.2) :
    callEnt k st dst args e κ other = (callEnt k st dst args e (fun v s => some (v, s)) other').bind fun p => κ p.1 p.2 := by
  unfold callEnt
  split
  · rename_i v r _ _
    simp only [bind_nat]
    cases e.f k v with
    | none => rfl
    | some o => simp only [Option.bind_some]; split <;> rfl
  · exact ho

theorem callIn_nat (k : Nat) (st : St) (dst f : Nat) (args : List V) (κ : V → St → Option ρ) : ∀ es : List Entry, callIn k st dst f args κ es = (callIn k st dst f args (fun v s => some (v, s)) es).bind fun p => κ p.1 p.2
  | [] => rfl
  | e :: es => by
    simp only [callIn]
    split
    · exact callEnt_nat _ _ _ _ _ _ _ _ (callIn_nat k st dst f args κ es)
    · exact callIn_nat k st dst f args κ es

theorem sliceOp_nat (st : St) (i : TI) (esz : Nat) (trunc : Bool) (dst : Nat) (x : C) (lo hi : Option Int) (κ : V → St → Option ρ) : sliceOp st i esz trunc dst x lo hi κ = (sliceOp st i esz trunc dst x lo hi (fun v s => some (v, s))).bind fun p => κ p.1 p.2 := by
  unfold sliceOp
  split
  · simp only [cond_bind, Option.bind_some, Option.bind_none]
  · split
    · simp only [cond_bind, Option.bind_some, Option.bind_none]
    · rfl
  · split
    · split
      · cases trunc with
        | false => simp only [cond_bind, cond_false, Option.bind_some, Option.bind_none]
        | true =>
          simp only [cond_true]
          split
          · rw [cond_bind, newRow_nat, newRow_nat (κ := fun s => some (_, s)), bind_nat]; rfl
          · rfl
      · rfl
    · split
      · simp only [cond_bind, Option.bind_some, Option.bind_none]
      · rfl
    · rfl
  · rfl

theorem tailOp_nat (st : St) (i : TI) (esz : Nat) (x : C) (lo hi : Option Int) (κ : C → Option ρ) : tailOp st i esz x lo hi κ = (tailOp st i esz x lo hi some).bind κ := by
  unfold tailOp
  split
  · split
    · split
      · simp only [cond_bind, Option.bind_some, Option.bind_none]
      · rfl
    · rfl
  · rfl

theorem evOp_nat (cfg : Cfg) (st : St) (o : Oper) (hq : quiet cfg st o = true) (κ : V → St → Option ρ) : evOp cfg st o κ = (evOp cfg st o fun v s => some (v, s)).bind fun p => κ p.1 p.2 := by
  by_cases hf : ∃ f fs cs, o.op = .makeFunc f fs cs
  · obtain ⟨f, fs, cs, ho⟩ := hf
    cases f <;> simp only [evOp, ho]
    case func f =>
      split
      · rfl
      · rfl
    all_goals rfl
  by_cases hs : ∃ t x lo hi mx, o.op = .slice t x lo hi mx
  · obtain ⟨t, x, lo, hi, mx, ho⟩ := hs
    cases mx with
    | some m => simp only [evOp, ho]; rfl
    | none =>
      simp only [evOp, ho]
      split
      · cases cfg.tails.any (Nat.beq (Oper.name o)) with
        | true =>
          simp only [cond_true]
          rw [tailOp_nat, tailOp_nat (κ := fun c => some (V.v (W1.c c), st)), bind_nat]; rfl
        | false =>
          simp only [cond_false]
          exact sliceOp_nat ..
      · rfl
  cases ho : o.op <;> simp only [quiet, ho, Bool.false_eq_true] at hq <;> (try simp only [evOp, ho])
  case move x => rfl
  case assign x => rfl
  case pick c a b =>
    split
    · rename_i t _; cases t <;> rfl
    · rfl
  case alloc t =>
    split
    · split
      · split
        · split
          · rw [cond_bind, newRow_nat, newRow_nat (κ := fun s => some (_, s)), bind_nat]; rfl
          · rfl
        · rfl
      · rw [cond_bind, newBlock_nat, newBlock_nat (κ := fun s => some (_, s)), bind_nat]; rfl
    · rfl
  case box t x =>
    split
    · split
      · split
        · split
          · rw [cond_bind, newRow_nat, newRow_nat (κ := fun s => some (_, s)), bind_nat]; rfl
          · rfl
        · rfl
      · rw [newBlock_nat, newBlock_nat (κ := fun s => some (_, s)), bind_nat]; rfl
    · rfl
  case build t ps =>
    split
    · split
      · split <;> rfl
      · rfl
    · rfl
  case buildSlice t n ps =>
    split
    · split
      · split
        · split
          · split
            · rw [cond_bind, newRow_nat, newRow_nat (κ := fun s => some (_, s)), bind_nat]; rfl
            · rfl
          · rfl
        · rfl
      · rfl
    · rfl
  case load t a =>
    split
    · rw [load_nat, load_nat (κ := fun v => some (v, st)), bind_nat]; rfl
    · rfl
  case nilCheck x => split <;> rfl
  case binOp op t x y p => rw [bin_nat, bin_nat (κ := fun c => some (V.v (W1.c c), st)), bind_nat]; rfl
  case unOp op t x => rw [un_nat, un_nat (κ := fun c => some (V.v (W1.c c), st)), bind_nat]; rfl
  case convert s d x =>
    split
    · split <;> rfl
    · rfl
  case fieldAddr s x f =>
    split
    · split
      · split <;> rfl
      · rfl
    · rfl
  case field s x f =>
    split
    · split
      · split
        · split
          · split
            · split <;> rfl
            · rfl
          · rfl
        · rfl
      · rfl
    · rfl
  case indexAddr t x i =>
    split
    · rw [indexAddr_nat, indexAddr_nat (κ := fun c => some (V.v (W1.c c), st)), bind_nat]; rfl
    · rfl
  case index t x i =>
    split
    · split
      · simp only [bind_nat, Option.bind_some]
      · rfl
    · rfl
  case extract x i =>
    split
    · split <;> rfl
    · rfl
  case makeFunc f fs cs => exact absurd ⟨f, fs, cs, ho⟩ hf
  case makeSlice t l c =>
    split
    · split
      · split
        · split
          · rw [cond_bind, newRow_nat, newRow_nat (κ := fun s => some (_, s)), bind_nat]; rfl
          · rfl
        · rfl
      · rfl
    · rfl
  case slice t x lo hi mx => exact absurd ⟨t, x, lo, hi, mx, ho⟩ hs
  case call c =>
    split
    · split
      · split
        · split <;> rfl
        · rfl
      · rfl
    · rename_i e; rw [e] at hq; simp at hq
    · split
      · split <;> rfl
      · rfl
    · split
      · split <;> rfl
      · rfl
    · rename_i e; rw [e] at hq; simp at hq
    · rfl
    · rfl
    · split
      · split
        · exact callIn_nat ..
        · rfl
      · rfl

theorem newBlock_quiet {st st' : St} {n : Nat} {b : B} (h : newBlock st n b some = some st') : Quiet (fun k => Nat.beq k n) st st' := by
  unfold newBlock at h
  split at h
  · rename_i e _
    injection h with h; subst h
    refine ⟨rfl, fun k hk => ?_⟩
    by_cases q : k = n
    · subst q
      rcases hk with hk | hk
      · rw [e] at hk; cases hk
      · simp at hk
    · exact upd_ne _ _ q
  · cases h

theorem newRow_quiet {st st' : St} {n e : Nat} {u : U} {l : List (El u)} (h : newRow st n e u l some = some st') : Quiet (fun k => Nat.beq k n) st st' := by
  unfold newRow at h
  split at h
  · exact newBlock_quiet h
  · cases h

theorem backNames_own {dst : Nat} : ∀ {bs : List (Nat × BK)} {i n m : Nat}, (n, m) ∈ backNames [] dst bs i → ∃ j, j < i + bs.length ∧ m = 2000000 + dst * 100 + j
  | [], i, n, m, h => by cases h
  | (a, k) :: bs, i, n, m, h => by
    simp only [backNames, assoc] at h
    rcases List.mem_cons.1 h with h | h
    · injection h with _ h; exact ⟨i, by simp, h⟩
    · obtain ⟨j, hj, e⟩ := backNames_own h; exact ⟨j, by simp at hj ⊢; omega, e⟩

theorem callEnt_quiet {k : Nat} {st st' : St} {dst : Nat} {args : List V} {e : Entry} {v : V} {x : e.ar.V} {r : Ren} {other : Option (V × St)} (hx : e.ar.ext ⟨ofList args, st.h⟩ = some (x, r)) (hl : Nat.beq args.length e.ar.temps.length = true)
    (hq : (r.map.isEmpty && (e.res.flat || r.frz.isEmpty) && Nat.ble e.res.blocks.length 8) = true) (h : callEnt k st dst args e (fun v s => some (v, s)) other = some (v, st')) : Quiet (ownC dst) st st' := by
  unfold callEnt at h
  rw [hx, hl] at h
  simp only at h
  obtain ⟨o, _, h⟩ := Option.bind_eq_some_iff.1 h
  simp only [Bool.and_eq_true, Bool.or_eq_true] at hq
  obtain ⟨⟨hm, hf⟩, hb⟩ := hq
  have hb : e.res.blocks.length ≤ 8 := by rwa [Nat.ble_eq] at hb
  have hm : r.map = [] := by simpa using hm
  rw [hm] at h
  split at h
  case h_2 => cases h
  rename_i hfree _
  injection h with h; injection h with _ h; subst h
  have hh : (match e.res.flat with | true => st.h | false => freezeAll st.h r.frz) = st.h := by
    rcases hf with hf | hf
    · rw [hf]
    · have : r.frz = [] := by simpa using hf
      rw [this]; cases e.res.flat <;> rfl
  refine ⟨rfl, fun n hn => ?_⟩
  refine (putBack_eq _ _ _ ?_).trans (congrFun hh n)
  · rintro b hbm rfl
    have hmem : (b.1, renN (backNames [] dst e.res.blocks 0) b.1) ∈ backNames [] dst e.res.blocks 0 := by
      have : (assoc (backNames [] dst e.res.blocks 0) b.1).isSome = true := assoc_fst.1 (by rw [backNames_fst]; exact List.mem_map.2 ⟨b, hbm, rfl⟩)
      obtain ⟨q, hq⟩ := Option.isSome_iff_exists.1 this
      rw [show renN (backNames [] dst e.res.blocks 0) b.1 = q by simp [renN, hq]]; exact assoc_mem hq
    rcases hn with hn | hn
    · have := freeAll_mem hfree hmem (fun k => by simp [assoc])
      rw [this.1] at hn; cases hn
    · obtain ⟨j, hj, e1⟩ := backNames_own hmem
      rw [e1] at hn
      have h1 : Nat.ble (2000000 + dst * 100) (2000000 + dst * 100 + j) = true := by rw [Nat.ble_eq]; omega
      have h2 : Nat.blt (2000000 + dst * 100 + j) (2000000 + dst * 100 + 8) = true := by rw [Nat.blt_eq]; omega
      simp [ownC, h1, h2] at hn

theorem callIn_quiet {k : Nat} {st st' : St} {dst f : Nat} {args : List V} {v : V} : ∀ {es : List Entry}, quietIn st f args es = true → callIn k st dst f args (fun v s => some (v, s)) es = some (v, st') → Quiet (ownC dst) st st'
  | [], hq, _ => by cases hq
  | e :: es, hq, h => by
    simp only [callIn] at h
    simp only [quietIn] at hq
    split at h
    · rename_i he
      rw [he] at hq
      simp only at hq
      split at hq
      · rename_i x r hx hl; exact callEnt_quiet hx hl hq h
      · rename_i hno
        have : callEnt k st dst args e (fun v s => some (v, s)) (callIn k st dst f args (fun v s => some (v, s)) es) = callIn k st dst f args (fun v s => some (v, s)) es := by
          unfold callEnt
          split
          · rename_i a b c d; exact absurd d (hno _ _ c)
          · rfl
        rw [this] at h
        exact callIn_quiet hq h
    · rename_i he
      rw [he] at hq
      exact callIn_quiet hq h

theorem newBlock_one {st st' : St} {n : Nat} {b : B} {v v' : V} (h : newBlock st n b (fun s => some (v, s)) = some (v', st')) : Quiet (fun k => Nat.beq k n) st st' := by
  rw [newBlock_nat] at h
  obtain ⟨s, h1, h2⟩ := Option.bind_eq_some_iff.1 h
  injection h2 with h2; injection h2 with _ h2; subst h2
  exact newBlock_quiet h1

theorem newRow_one {st st' : St} {n e : Nat} {u : U} {l : List (El u)} {v v' : V} (h : newRow st n e u l (fun s => some (v, s)) = some (v', st')) : Quiet (fun k => Nat.beq k n) st st' := by
  rw [newRow_nat] at h
  obtain ⟨s, h1, h2⟩ := Option.bind_eq_some_iff.1 h
  injection h2 with h2; injection h2 with _ h2; subst h2
  exact newRow_quiet h1

theorem cond_some {α : Type} {c : Bool} {a : Option α} {r : α} (h : (bif c then a else none) = some r) : a = some r := by cases c <;> first | exact h | cases h

theorem one_quiet {d : Nat → Bool} {st st' : St} {v v' : V} (h : some (v, st) = some (v', st')) : Quiet d st st' := by
  injection h with h; injection h with _ h; subst h; exact .refl _ _

theorem bind_quiet {α : Type} {x : Option α} {d : Nat → Bool} {st st' : St} {g : α → V} {v' : V} (h : x.bind (fun c => some (g c, st)) = some (v', st')) : Quiet d st st' := by
  obtain ⟨c, _, h⟩ := Option.bind_eq_some_iff.1 h
  exact one_quiet h

theorem weak_row {c : C} {n : Nat} (h : c.weak = .row n) : c = .row n := by cases c <;> first | exact h | cases h

theorem evOp_quiet {cfg : Cfg} {st st' : St} {o : Oper} {v : V} (hq : quiet cfg st o = true) (h : evOp cfg st o (fun v s => some (v, s)) = some (v, st')) : Quiet (owns o) st st' := by
  by_cases hf : ∃ f fs cs, o.op = .makeFunc f fs cs
  · obtain ⟨f, fs, cs, ho⟩ := hf
    cases f <;> simp only [evOp, ho] at h
    case func f =>
      split at h
      · exact one_quiet h
      · cases h
    all_goals cases h
  by_cases hs : ∃ t x lo hi mx, o.op = .slice t x lo hi mx
  · obtain ⟨t, x, lo, hi, mx, ho⟩ := hs
    cases mx with
    | some m => simp only [evOp, ho] at h; cases h
    | none =>
      simp only [evOp, ho] at h
      simp only [quiet, ho] at hq
      split at h
      · rename_i hx _ _
        rw [hx] at hq
        cases htl : cfg.tails.any (Nat.beq (Oper.name o)) with
        | true =>
          rw [htl] at h
          simp only [cond_true] at h
          rw [tailOp_nat] at h
          exact bind_quiet h
        | false =>
        rw [htl] at h
        simp only [cond_false] at h
        unfold sliceOp at h
        split at h
        · exact one_quiet (cond_some h)
        · split at h
          · exact one_quiet (cond_some h)
          · cases h
        · rename_i e2
          rw [weak_row e2] at hq
          simp only at hq
          split at h
          · rename_i e; rw [e] at hq; cases hq
          · split at h
            · exact one_quiet (cond_some h)
            · cases h
          · cases h
        · cases h
      · cases h
  cases ho : o.op <;> simp only [quiet, ho, Bool.false_eq_true] at hq <;> (try simp only [evOp, ho] at h)
  case move x => exact one_quiet h
  case assign x => exact one_quiet h
  case pick c a b =>
    split at h
    · rename_i t _; cases t <;> exact one_quiet h
    · cases h
  case alloc t =>
    split at h
    · split at h
      · split at h
        · split at h
          · exact (newRow_one (cond_some h)).of (fun n hn => by simpa [owns, ownK, ho] using hn)
          · cases h
        · cases h
      · exact (newBlock_one (cond_some h)).of (fun n hn => by simpa [owns, ownK, ho] using hn)
    · cases h
  case box t x =>
    split at h
    · rename_i i cs e1 e2
      rw [e2] at hq
      have hr : rowsIn cs = [] := by simpa using hq
      split at h
      · split at h
        · split at h
          · rw [hr] at h; exact (newRow_one (cond_some h)).of (fun n hn => by simpa [owns, ownK, ho] using hn)
          · cases h
        · cases h
      · exact (newBlock_one h).of (fun n hn => by simpa [owns, ownK, ho] using hn)
    · cases h
  case build t ps =>
    split at h
    · split at h
      · split at h
        · exact one_quiet h
        · cases h
      · cases h
    · cases h
  case buildSlice t n ps =>
    have hr : rowsInAll (ps.toList.map fun p => (p.1, opnd st p.2)) = [] := by simpa using hq
    split at h
    · split at h
      · split at h
        · split at h
          · split at h
            · rw [hr] at h; exact (newRow_one (cond_some h)).of (fun n hn => by simpa [owns, ownK, ho] using hn)
            · cases h
          · cases h
        · cases h
      · cases h
    · cases h
  case load t a =>
    split at h
    · rw [load_nat] at h; exact bind_quiet h
    · cases h
  case nilCheck x => split at h <;> first | exact one_quiet h | cases h
  case binOp op t x y p => rw [bin_nat] at h; exact bind_quiet h
  case unOp op t x => rw [un_nat] at h; exact bind_quiet h
  case convert s d x =>
    split at h
    · split at h
      · exact one_quiet h
      · cases h
    · cases h
  case fieldAddr s x f =>
    split at h
    · split at h
      · split at h <;> first | exact one_quiet h | cases h
      · cases h
    · cases h
  case field s x f =>
    split at h
    · split at h
      · split at h
        · split at h
          · split at h
            · split at h
              · exact one_quiet h
              · cases h
            · cases h
          · cases h
        · cases h
      · cases h
    · cases h
  case indexAddr t x i =>
    split at h
    · rw [indexAddr_nat] at h; exact bind_quiet h
    · cases h
  case index t x i =>
    split at h
    · split at h
      · exact bind_quiet h
      · cases h
    · cases h
  case extract x i =>
    split at h
    · split at h
      · exact one_quiet h
      · cases h
    · cases h
  case makeFunc f fs cs => exact absurd ⟨f, fs, cs, ho⟩ hf
  case makeSlice t l c =>
    split at h
    · split at h
      · split at h
        · split at h
          · exact (newRow_one (cond_some h)).of (fun n hn => by simpa [owns, ownK, ho] using hn)
          · cases h
        · cases h
      · cases h
    · cases h
  case slice t x lo hi mx => exact absurd ⟨t, x, lo, hi, mx, ho⟩ hs
  case call c =>
    split at h
    · split at h
      · split at h
        · split at h
          · exact one_quiet h
          · cases h
        · cases h
      · cases h
    · rename_i e; rw [e] at hq; simp at hq
    · split at h
      · split at h
        · exact one_quiet h
        · cases h
      · cases h
    · split at h
      · split at h
        · exact one_quiet h
        · cases h
      · cases h
    · rename_i e; rw [e] at hq; simp at hq
    · cases h
    · cases h
    · rename_i f e
      rw [e] at hq
      simp only at hq
      split at h
      · rename_i g eg
        rw [eg] at hq
        simp only at hq
        split at h
        · rename_i n caps eo
          rw [eo] at hq
          exact (callIn_quiet hq h).of (fun n hn => by simpa [owns, ownK, ho] using hn)
        · cases h
      · cases h

/-- A quiet operation has one value and one state behind it. -/
theorem evOp_det {cfg : Cfg} {st : St} {o : Oper} {κ : V → St → Option ρ} {r : ρ} (hq : quiet cfg st o = true) (h : evOp cfg st o κ = some r) :
    ∃ v st', Quiet (owns o) st st' ∧ κ v st' = some r ∧ ∀ (ρ' : Type) (κ' : V → St → Option ρ'), evOp cfg st o κ' = κ' v st' := by
  rw [evOp_nat cfg st o hq] at h
  obtain ⟨⟨v, st'⟩, h1, h2⟩ := Option.bind_eq_some_iff.1 h
  exact ⟨v, st', evOp_quiet hq h1, h2, fun ρ' κ' => by rw [evOp_nat cfg st o hq, h1]; rfl⟩
end Go.Proofs.Ytcijmfodhdigpaa.R1
