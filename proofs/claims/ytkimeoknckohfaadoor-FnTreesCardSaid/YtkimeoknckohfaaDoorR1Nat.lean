/- An operation's run goes on in any way alike. -/
import Derived.Test.YtkimeoknckohfaaDoorR1FnSound
namespace Go.Proofs.YtkimeoknckohfaaDoor.R1
variable {ρ : Type}

theorem cond_bind {α β : Type} (c : Bool) (a b : Option α) (f : α → Option β) : (bif c then a else b).bind f = bif c then a.bind f else b.bind f := by cases c <;> rfl

theorem bind_nat {α β γ : Type} (x : Option α) (f : α → Option β) (g : β → Option γ) : (x.bind f).bind g = x.bind fun y => (f y).bind g := by cases x <;> rfl

theorem intBin_nat (op : BinOp) (k : IntKind) (x y : Int) (κ : C → Option ρ) : intBin op k x y κ = (intBin op k x y some).bind κ := by
  cases op <;> simp only [intBin, cond_bind, Option.bind_some, Option.bind_none]

theorem strBin_nat (op : BinOp) (x y : ByteArray) (κ : C → Option ρ) : strBin op x y κ = (strBin op x y some).bind κ := by
  cases op <;> simp only [strBin, cond_bind, Option.bind_some, Option.bind_none]

theorem bin_nat (tt : TT) (t : Nat) (op : BinOp) (x y : V) (κ : C → Option ρ) : bin tt t op x y κ = (bin tt t op x y some).bind κ := by
  unfold bin
  split
  · split
    · exact intBin_nat ..
    · exact intBin_nat ..
    · split
      · exact intBin_nat ..
      · rfl
  · exact strBin_nat ..
  · split <;> rfl
  · split <;> rfl
  · split <;> rfl
  · split <;> rfl
  · rfl

theorem un_nat (op : UnOp) (x : V) (κ : C → Option ρ) : un op x κ = (un op x some).bind κ := by
  unfold un; split <;> rfl

theorem load_nat (st : St) (i : TI) (a : C) (κ : V → Option ρ) : load st i a κ = (load st i a some).bind κ := by
  unfold load
  split
  · rename_i n j sz off
    split
    · split
      · split <;> rfl
      · rfl
    · rename_i u l _
      cases Nat.beq sz u.n
      · rfl
      · cases l[j]? with
        | none => rfl
        | some x => simp only [cond_true, Option.bind_some]; split
                    · split <;> rfl
                    · rfl
    · rename_i u l _
      cases Nat.beq sz u.n
      · rfl
      · cases l[j]? with
        | none => rfl
        | some x => simp only [cond_true, Option.bind_some]; split
                    · split <;> rfl
                    · rfl
    · rename_i o l _
      rw [cond_bind, bind_nat]
      congr 1
      congr 1
      funext x
      split
      · split <;> rfl
      · rfl
    · rw [cond_bind]
      congr 1
      split
      · split <;> rfl
      · rfl
    · rfl
  · split
    · split <;> rfl
    · rfl
  · rfl

theorem openLoad_nat (st : St) (i : TI) (a : C) (d : Nat) (κ : V → St → Option ρ) : openLoad st i a d κ = (openLoad st i a d (fun v s => some (v, s))).bind fun p => κ p.1 p.2 := by
  unfold openLoad
  split
  · split
    · split
      · rw [bind_nat]
        congr 1
        funext x
        split
        · split <;> rfl
        · rfl
      · rfl
    · rw [load_nat, load_nat (κ := fun v => some (v, st)), bind_nat]; rfl
  · rw [load_nat, load_nat (κ := fun v => some (v, st)), bind_nat]; rfl

theorem newBlock_nat (st : St) (n : Nat) (b : B) (κ : St → Option ρ) : newBlock st n b κ = (newBlock st n b some).bind κ := by
  unfold newBlock; split <;> rfl

theorem newRow_nat (st : St) (n e : Nat) (u : U) (l : List (El u)) (κ : St → Option ρ) : newRow st n e u l κ = (newRow st n e u l some).bind κ := by
  unfold newRow; split
  · exact newBlock_nat ..
  · rfl

theorem newOwn_nat (st : St) (n e : Nat) (o : O) (l : List (El o.u)) (κ : St → Option ρ) : newOwn st n e o l κ = (newOwn st n e o l some).bind κ := by
  unfold newOwn; split
  · exact newBlock_nat ..
  · rfl

theorem appendOwn_nat (st : St) (dst e : Nat) (o : O) (ie : TI) (s x : C) (κ : V → St → Option ρ) : appendOwn st dst e o ie s x κ = (appendOwn st dst e o ie s x (fun v s => some (v, s))).bind fun p => κ p.1 p.2 := by
  unfold appendOwn
  split
  · split
    · rw [cond_bind, newOwn_nat, newOwn_nat (κ := fun s => some (_, s)), bind_nat]; rfl
    · rfl
  · rfl

theorem indexAddr_nat (st : St) (i : TI) (esz : Nat) (x : C) (j : Int) (κ : C → Option ρ) : indexAddr st i esz x j κ = (indexAddr st i esz x j some).bind κ := by
  unfold indexAddr
  repeat' split
  all_goals first | rfl | simp only [cond_bind, bind_nat, Option.bind_some, Option.bind_none]

theorem splitI_nat : ∀ (m i : Nat) (j : Int) (κ : Nat → Option ρ), splitI m i j κ = (splitI m i j some).bind κ
  | 0, _, _, _ => rfl
  | m + 1, i, j, κ => by
    simp only [splitI, cond_bind, Option.bind_some]
    rw [splitI_nat m]

theorem lookupW_nat (st : St) (ik ie : TI) (z : Option (El ie.u)) (eq : Option (El ik.u → El ik.u → Bool)) (t : Nat) (x y : V) (ok : Bool) (κ : V → Option ρ) : lookupW st ik ie z eq t x y ok κ = (lookupW st ik ie z eq t x y ok some).bind κ := by
  unfold lookupW
  split
  · split
    · dsimp only; split <;> rfl
    · split
      · split
        · split
          · dsimp only; split <;> rfl
          · rfl
        · rfl
      · rfl
    · rfl
  · rfl

theorem updateW_nat (st : St) (ik ie : TI) (eq : Option (El ik.u → El ik.u → Bool)) (t : Nat) (x y z : V) (κ : St → Option ρ) : updateW st ik ie eq t x y z κ = (updateW st ik ie eq t x y z some).bind κ := by
  unfold updateW
  split
  · split
    · rw [cond_bind]
      congr 1
      split
      · split
        · split <;> rfl
        · rfl
      · rfl
    · rfl
  · rfl

theorem entryW_nat (st : St) (ik ie : TI) (z : Option (El ie.u)) (eq : Option (El ik.u → El ik.u → Bool)) (t : Nat) (x y : V) (κ : V → St → Option ρ) : entryW st ik ie z eq t x y κ = (entryW st ik ie z eq t x y (fun v s => some (v, s))).bind fun p => κ p.1 p.2 := by
  unfold entryW
  split
  · split
    · rw [cond_bind]
      congr 1
      split
      · split
        · split
          · split <;> rfl
          · rfl
        · rfl
      · rfl
    · rfl
  · rfl

theorem entrySetW_nat (st : St) (ie : TI) (t : Nat) (x y z : V) (κ : St → Option ρ) : entrySetW st ie t x y z κ = (entrySetW st ie t x y z some).bind κ := by
  unfold entrySetW
  split
  · rw [cond_bind]
    congr 1
    split
    · split
      · split
        · rw [bind_nat]; rfl
        · rfl
      · rfl
    · rfl
  · rfl

theorem callEnt_nat (k : Nat) (st : St) (dst : Nat) (args : List V) (e : Entry) (κ : V → St → Option ρ) (other : Option ρ) (other' : Option (V × St)) (ho : other = other'.bind fun p => κ p.1 p.2) :
    callEnt k st dst args e κ other = (callEnt k st dst args e (fun v s => some (v, s)) other').bind fun p => κ p.1 p.2 := by
  unfold callEnt
  split
  · rename_i v r _ _
    simp only [bind_nat]
    cases e.f k v with
    | none => rfl
    | some o => simp only [Option.bind_some]; split <;> rfl
  · exact ho

theorem callIn_nat (k : Nat) (st : St) (dst f : Nat) (args : List V) (κ : V → St → Option ρ) : ∀ es : List Entry, callIn k st dst f args κ es = (callIn k st dst f args (fun v s => some (v, s)) es).bind fun p => κ p.1 p.2
  | [] => rfl
  | e :: es => by
    simp only [callIn]
    split
    · exact callEnt_nat _ _ _ _ _ _ _ _ (callIn_nat k st dst f args κ es)
    · exact callIn_nat k st dst f args κ es

theorem sliceOp_nat (st : St) (i : TI) (esz : Nat) (trunc : Bool) (dst : Nat) (x : C) (lo hi : Option Int) (κ : V → St → Option ρ) : sliceOp st i esz trunc dst x lo hi κ = (sliceOp st i esz trunc dst x lo hi (fun v s => some (v, s))).bind fun p => κ p.1 p.2 := by
  unfold sliceOp
  split
  · simp only [cond_bind, Option.bind_some, Option.bind_none]
  · split
    · simp only [cond_bind, Option.bind_some, Option.bind_none]
    · rfl
  · split
    · split
      · cases trunc with
        | false => simp only [cond_bind, cond_false, Option.bind_some, Option.bind_none]
        | true =>
          simp only [cond_true]
          split
          · rw [cond_bind, newRow_nat, newRow_nat (κ := fun s => some (_, s)), bind_nat]; rfl
          · rfl
      · rfl
    · split
      · simp only [cond_bind, Option.bind_some, Option.bind_none]
      · rfl
    · rfl
  · rfl

theorem tailOp_nat (st : St) (i : TI) (esz : Nat) (x : C) (lo hi : Option Int) (κ : C → Option ρ) : tailOp st i esz x lo hi κ = (tailOp st i esz x lo hi some).bind κ := by
  unfold tailOp
  split
  · split
    · split
      · simp only [cond_bind, Option.bind_some, Option.bind_none]
      · rfl
    · rfl
  · rfl

theorem storeRow_nat (st : St) (h : Nat → B) (sz off j n : Nat) (new : List C) (κ : St → Option ρ) : storeRow st h sz off j n new κ = (storeRow st h sz off j n new some).bind κ := by
  unfold storeRow
  split
  · rename_i e u l _
    cases Nat.beq sz u.n
    · rfl
    · simp only [cond_true, bind_nat]
      cases l[j]? with
      | none => rfl
      | some x =>
        simp only [Option.bind_some]
        split
        · split <;> rfl
        · rfl
  · rfl

theorem store_nat (wh : Bool) (st : St) (i : TI) (a : C) (v : V) (κ : St → Option ρ) : store wh st i a v κ = (store wh st i a v some).bind κ := by
  unfold store
  split
  · rfl
  · rw [cond_bind]
    congr 1
    split
    · split
      · split <;> rfl
      · exact storeRow_nat ..
      · split
        · rw [bind_nat]
          congr 1
          funext x
          split
          · rfl
          · simp only [cond_bind, Option.bind_some, Option.bind_none]
        · rfl
      · rw [cond_bind]
        congr 1
        split <;> rfl
      · rfl
    · rfl

theorem append_nat (st : St) (dst e : Nat) (ie : TI) (s x : C) (κ : V → St → Option ρ) : append st dst e ie s x κ = (append st dst e ie s x (fun v s => some (v, s))).bind fun p => κ p.1 p.2 := by
  unfold append
  split
  · split
    · rw [cond_bind, newRow_nat, newRow_nat (κ := fun s => some (_, s)), bind_nat]; rfl
    · rfl
  · split
    · split
      · split
        · rw [cond_bind, newRow_nat, newRow_nat (κ := fun s => some (_, s)), bind_nat]; rfl
        · rfl
      · rfl
    · rfl
  · rfl

theorem clearOp_nat (cfg : Cfg) (st : St) (i : TI) (x : C) (κ : V → St → Option ρ) : clearOp cfg st i x κ = (clearOp cfg st i x (fun v s => some (v, s))).bind fun p => κ p.1 p.2 := by
  unfold clearOp
  split
  · split
    · split
      · split <;> rfl
      · rfl
    · rfl
  · rfl

theorem conv_nat (cfg : Cfg) (st : St) (i j : TI) (c : C) (κ : C → Option ρ) : conv cfg st i j c κ = (conv cfg st i j c some).bind κ := by
  unfold conv
  split
  · split <;> rfl
  · split
    · split
      · split
        · split <;> rfl
        · rfl
      · rfl
    · rfl

theorem evOp_nat (cfg : Cfg) (st : St) (o : Oper) (κ : V → St → Option ρ) : evOp cfg st o κ = (evOp cfg st o fun v s => some (v, s)).bind fun p => κ p.1 p.2 := by
  by_cases hf : ∃ f fs cs, o.op = .makeFunc f fs cs
  · obtain ⟨f, fs, cs, ho⟩ := hf
    cases f <;> simp only [evOp, ho]
    case func f =>
      split
      · rfl
      · rfl
    all_goals rfl
  by_cases hs : ∃ t x lo hi mx, o.op = .slice t x lo hi mx
  · obtain ⟨t, x, lo, hi, mx, ho⟩ := hs
    cases mx with
    | some m => simp only [evOp, ho]; rfl
    | none =>
      simp only [evOp, ho]
      split
      · cases cfg.tails.any (Nat.beq (Oper.name o)) with
        | true =>
          simp only [cond_true]
          rw [tailOp_nat, tailOp_nat (κ := fun c => some (V.v (W1.c c), st)), bind_nat]; rfl
        | false =>
          simp only [cond_false]
          exact sliceOp_nat ..
      · rfl
  by_cases hm : ∃ t x, o.op = .makeMap t x
  · obtain ⟨t, x, ho⟩ := hm
    cases x with
    | some m => simp only [evOp, ho]; rfl
    | none =>
      simp only [evOp, ho]
      split
      · split
        · split
          · split
            · rw [newBlock_nat, newBlock_nat (κ := fun s => some (_, s)), bind_nat]; rfl
            · rfl
          · rfl
        · rfl
      · rfl
  cases ho : o.op <;> (try simp only [evOp, ho])
  case makeMap t x => exact absurd ⟨t, x, ho⟩ hm
  case lookup t x y cm =>
    split
    · split
      · split
        · split
          · rw [lookupW_nat, lookupW_nat (κ := fun v => some (v, st)), bind_nat]; rfl
          · rfl
        · rfl
      · rfl
    · rfl
  case mapEntry t x y =>
    split
    · split
      · split
        · split
          · exact entryW_nat ..
          · rfl
        · rfl
      · rfl
    · rfl
  case entryStore t x y z =>
    split
    · split
      · split
        · rw [entrySetW_nat, entrySetW_nat (κ := fun s => some (_, s)), bind_nat]; rfl
        · rfl
      · rfl
    · rfl
  case mapUpdate t x y z =>
    split
    · split
      · split
        · rw [updateW_nat, updateW_nat (κ := fun s => some (_, s)), bind_nat]; rfl
        · rfl
      · rfl
    · rfl
  case move x => rfl
  case assign x => rfl
  case pick c a b =>
    split
    · rename_i t _; cases t <;> rfl
    · rfl
  case alloc t =>
    split
    · split
      · split
        · split
          · rw [cond_bind, newRow_nat, newRow_nat (κ := fun s => some (_, s)), bind_nat]; rfl
          · rfl
        · rfl
      · rw [cond_bind, newBlock_nat, newBlock_nat (κ := fun s => some (_, s)), bind_nat]; rfl
    · rfl
  case box t x =>
    split
    · split
      · split
        · split
          · rw [cond_bind, newRow_nat, newRow_nat (κ := fun s => some (_, s)), bind_nat]; rfl
          · rfl
        · rfl
      · rw [newBlock_nat, newBlock_nat (κ := fun s => some (_, s)), bind_nat]; rfl
    · rfl
  case build t ps =>
    split
    · split
      · split <;> rfl
      · rfl
    · rfl
  case buildSlice t n ps =>
    split
    · split
      · split
        · split
          · split
            · split
              · rw [cond_bind, newOwn_nat, newOwn_nat (κ := fun s => some (_, s)), bind_nat]; rfl
              · rfl
            · rfl
          · split
            · split
              · rw [cond_bind, newRow_nat, newRow_nat (κ := fun s => some (_, s)), bind_nat]; rfl
              · rfl
            · rfl
        · rfl
      · rfl
    · rfl
  case load t a =>
    split
    · cases cfg.opens.any (Nat.beq (Oper.name o)) with
      | true => simp only [cond_true]; exact openLoad_nat ..
      | false => simp only [cond_false]; rw [load_nat, load_nat (κ := fun v => some (v, st)), bind_nat]; rfl
    · rfl
  case nilCheck x => split <;> rfl
  case binOp op t x y p => rw [bin_nat, bin_nat (κ := fun c => some (V.v (W1.c c), st)), bind_nat]; rfl
  case unOp op t x => rw [un_nat, un_nat (κ := fun c => some (V.v (W1.c c), st)), bind_nat]; rfl
  case convert s d x =>
    split
    · rw [conv_nat, conv_nat (κ := fun c => some (V.v (W1.c c), st)), bind_nat]; rfl
    · rfl
  case fieldAddr s x f =>
    split
    · split
      · split <;> rfl
      · rfl
    · rfl
  case field s x f =>
    split
    · split
      · split
        · split
          · split
            · split <;> rfl
            · rfl
          · rfl
        · rfl
      · rfl
    · rfl
  case indexAddr t x i =>
    split
    · split
      · split
        · rw [splitI_nat, splitI_nat (κ := fun q => some (V.v (W1.c (C.ptr _ 0 0 (_ + q * elemSize cfg _))), st)), bind_nat]; rfl
        · rfl
      · rw [indexAddr_nat, indexAddr_nat (κ := fun c => some (V.v (W1.c c), st)), bind_nat]; rfl
    · rfl
  case index t x i =>
    split
    · split
      · simp only [bind_nat, Option.bind_some]
      · rfl
    · split
      · rw [splitI_nat]
        conv => rhs; arg 1; rw [splitI_nat]
        rw [bind_nat]
        congr 1
        funext q
        split <;> rfl
      · rfl
    · rfl
  case store t a x =>
    split
    · rw [store_nat, store_nat (κ := fun s => some (_, s)), bind_nat]; rfl
    · rfl
  case extract x i =>
    split
    · split <;> rfl
    · rfl
  case makeFunc f fs cs => exact absurd ⟨f, fs, cs, ho⟩ hf
  case makeSlice t l c =>
    split
    · split
      · split
        · split
          · split
            · split
              · rw [cond_bind, newOwn_nat, newOwn_nat (κ := fun s => some (_, s)), bind_nat]; rfl
              · rfl
            · rfl
          · split
            · rw [cond_bind, newRow_nat, newRow_nat (κ := fun s => some (_, s)), bind_nat]; rfl
            · rfl
        · rfl
      · rfl
    · rfl
  case slice t x lo hi mx => exact absurd ⟨t, x, lo, hi, mx, ho⟩ hs
  case call c =>
    split
    · split
      · split
        · split <;> rfl
        · rfl
      · rfl
    · split
      · split
        · split
          · split
            · split
              · exact appendOwn_nat ..
              · exact append_nat ..
            · rfl
          · rfl
        · rfl
      · rfl
    · split
      · split <;> rfl
      · rfl
    · split
      · split <;> rfl
      · rfl
    · split
      · split
        · exact clearOp_nat ..
        · rfl
      · rfl
    · rfl
    · rfl
    · split
      · split
        · exact callIn_nat ..
        · rfl
      · rfl
  all_goals rfl

theorem evOp_det {cfg : Cfg} {st : St} {o : Oper} {κ : V → St → Option ρ} {r : ρ} (h : evOp cfg st o κ = some r) : ∃ v s1, evOp cfg st o (fun v s => some (v, s)) = some (v, s1) ∧ κ v s1 = some r := by
  rw [evOp_nat] at h
  obtain ⟨⟨v, s1⟩, h1, h2⟩ := Option.bind_eq_some_iff.1 h
  exact ⟨v, s1, h1, h2⟩
end Go.Proofs.YtkimeoknckohfaaDoor.R1
