/- What the printed texts use: names of reckonings, and a function's contract in one step. -/
import Derived.Test.YtkimeoknckohfaaDoorR1TTchk
import Derived.KernelRfl
namespace Go.Proofs.YtkimeoknckohfaaDoor.R1
variable {P : Program}

def wr (k : IntKind) (n : Int) : Int := k.wrap n
def iand (k : IntKind) (x y : Int) : Int := k.wrap (BitVec.ofInt k.bits x &&& BitVec.ofInt k.bits y).toNat
def ior (k : IntKind) (x y : Int) : Int := k.wrap (BitVec.ofInt k.bits x ||| BitVec.ofInt k.bits y).toNat
def ixor (k : IntKind) (x y : Int) : Int := k.wrap (BitVec.ofInt k.bits x ^^^ BitVec.ofInt k.bits y).toNat
def iandn (k : IntKind) (x y : Int) : Int := k.wrap (BitVec.ofInt k.bits x &&& ~~~BitVec.ofInt k.bits y).toNat
def ishl (k : IntKind) (x y : Int) : Int := k.wrap (x * 2 ^ (min y.toNat k.bits))
def ishr (k : IntKind) (x y : Int) : Int := x.fdiv (2 ^ (min y.toNat k.bits))
def inot (k : IntKind) (n : Int) : Int := k.wrap (BitVec.ofInt k.bits (if k.signed then -1 else k.max) ^^^ BitVec.ofInt k.bits n).toNat

/-- A contract that holds at every number of rounds. -/
def Sound (P : Program) (glob : Nat → B) (e : Entry) : Prop := EntryFn P e ∧ ∀ k, EntryOk P glob k e

def AllAt (P : Program) (glob : Nat → B) (j : Nat) : List Entry → Prop
  | [] => True
  | e :: r => (EntryFn P e ∧ EntryOk P glob j e) ∧ AllAt P glob j r

theorem AllAt.mem {glob : Nat → B} {j : Nat} : ∀ {l : List Entry}, AllAt P glob j l → ∀ e ∈ l, EntryFn P e ∧ EntryOk P glob j e
  | [], _, e, he => by cases he
  | a :: l, h, e, he => by
    rcases List.mem_cons.1 he with rfl | he
    · exact h.1
    · exact AllAt.mem h.2 e he

theorem Sound.at {glob : Nat → B} {e : Entry} (h : Sound P glob e) (j : Nat) : EntryFn P e ∧ EntryOk P glob j e := ⟨h.1, h.2 j⟩

def OblL (cfg : Full) : Code → List Prop
  | .seq a b => OblL cfg a ++ (OblL cfg b ++ match (firstRegion b).bind (assoc cfg.joins) with
    | some ct => [JoinOk cfg ct b]
    | none => [])
  | .cond _ x y => OblL cfg x ++ OblL cfg y
  | .block _ b => OblL cfg b
  | .loop b => OblL cfg b ++ match (loopKey b).bind (assoc cfg.cuts) with
    | some ct => [CutOk cfg ct b]
    | none => []
  | _ => []

def AllP : List Prop → Prop
  | [] => True
  | p :: r => p ∧ AllP r

theorem AllP.mem : ∀ {l : List Prop}, AllP l → ∀ p ∈ l, p
  | [], _, p, hp => by cases hp
  | a :: l, h, p, hp => by
    rcases List.mem_cons.1 hp with rfl | hp
    · exact h.1
    · exact AllP.mem h.2 p hp

theorem obl_of {cfg : Full} : ∀ {c : Code}, (∀ p ∈ OblL cfg c, p) → Obl cfg c := by
  intro c
  induction c with
  | seq a b iha ihb =>
    intro h
    refine ⟨iha fun p hp => h p (by simp [OblL, hp]), ihb fun p hp => h p (by simp [OblL, hp]), ?_⟩
    split
    · rename_i i e1
      split
      · rename_i ct e2
        exact h _ (by simp [OblL, e1, e2])
      · trivial
    · trivial
  | cond x a b iha ihb => intro h; exact ⟨iha fun p hp => h p (by simp [OblL, hp]), ihb fun p hp => h p (by simp [OblL, hp])⟩
  | block i b ih => intro h; exact ih fun p hp => h p (by simpa [OblL] using hp)
  | loop b ih =>
    intro h
    refine ⟨ih fun p hp => h p (by simp [OblL, hp]), ?_⟩
    split
    · rename_i i e1
      split
      · rename_i ct e2
        exact h _ (by simp [OblL, e1, e2])
      · trivial
    · trivial
  | _ => intro h; trivial

@[irreducible] def bodyL (cfg : Full) (fn : Func) : List Prop := match fn.body with
  | some c => OblL cfg c
  | none => []

/-- The body of the loop whose first region has this number; what stands behind a place where ways meet. -/
def loopAt (i : Nat) : Code → Option Code
  | .seq a b => (loopAt i a).or (loopAt i b)
  | .cond _ x y => (loopAt i x).or (loopAt i y)
  | .block _ b => loopAt i b
  | .loop b => (match loopKey b with
    | some j => bif Nat.beq i j then some b else none
    | none => none).or (loopAt i b)
  | _ => none

def joinAt (i : Nat) : Code → Option Code
  | .seq a b => (match firstRegion b with
    | some j => bif Nat.beq i j then some b else none
    | none => none).or ((joinAt i a).or (joinAt i b))
  | .cond _ x y => (joinAt i x).or (joinAt i y)
  | .block _ b => joinAt i b
  | .loop b => joinAt i b
  | _ => none

def bodyOf (fn : Func) : Code := fn.body.getD .skip
def theLoop (fn : Func) (i : Nat) : Code := (loopAt i (bodyOf fn)).getD .skip
def theJoin (fn : Func) (i : Nat) : Code := (joinAt i (bodyOf fn)).getD .skip

/-! ### The blocks of package variables -/
def globOf (l : List (Nat × B)) (n : Nat) : B := (assoc l n).getD .free

theorem globOf_free : ∀ {l : List (Nat × B)}, (l.all fun p => isGlob p.1) = true → ∀ n, isGlob n = false → globOf l n = .free
  | [], _, n, _ => rfl
  | (m, b) :: r, h, n, hn => by
    simp only [List.all_cons, Bool.and_eq_true] at h
    unfold globOf
    simp only [assoc]
    cases e : Nat.beq m n with
    | true => have := Nat.eq_of_beq_eq_true e; subst this; rw [hn] at h; cases h.1
    | false => exact globOf_free h.2 n hn

structure Base (P : Program) (tt : TT) (glob : Nat → B) : Prop where
  draw : DrawOk P
  tt : TTok P tt
  glob : ∀ n, isGlob n = false → glob n = .free

theorem sound_of {tt : TT} {glob : Nat → B} (Bs : Base P tt glob) {fn : Func} {e : Entry} (hf : P.funcs[e.id]? = some fn) (hc : (fnChk fn && e.ar.blocks.all (fun b => isParam b.1)) = true) (cfg : Nat → Full)
    (h1 : ∀ k, (cfg k).tt = tt ∧ (cfg k).glob = glob) (hfn : ∀ k j, AllAt P glob j (cfg k).fns) (hob : ∀ k, AllP (bodyL (cfg k) fn)) (hev : ∀ k v, e.f k v = evFn (cfg k) fn e.ar e.res (e.ar.st glob v) some) : Sound P glob e := by
  simp only [Bool.and_eq_true] at hc
  refine ⟨entryFn_of hf hc.1, fun k => ?_⟩
  have := fn_sound Bs.draw (cfg := cfg k) (k := k) hf (⟨by show TTok P (cfg k).tt; rw [(h1 k).1]; exact Bs.tt, by show ∀ e ∈ (cfg k).fns, EntryFn P e ∧ EntryOk P (cfg k).glob (cfg k).k e; rw [(h1 k).2]; exact (hfn k _).mem, by show ∀ n, isGlob n = false → (cfg k).glob n = .free; rw [(h1 k).2]; exact Bs.glob⟩)
    (fun c hcb => obl_of fun p hp => (hob k).mem p (by unfold bodyL; rw [hcb]; exact hp)) (fun v => by rw [(h1 k).2]; exact hev k v) hc.2
  rw [(h1 k).2] at this; exact this

/-- A function that calls itself. -/
theorem sound_rec {tt : TT} {glob : Nat → B} (Bs : Base P tt glob) {fn : Func} {e : Entry} (hf : P.funcs[e.id]? = some fn) (hc : (fnChk fn && e.ar.blocks.all (fun b => isParam b.1)) = true) (cfg : Nat → Full)
    (h1 : ∀ k, (cfg k).tt = tt ∧ (cfg k).glob = glob ∧ (cfg k).k = k) (hfn : ∀ k j, (EntryFn P e ∧ EntryOk P glob j e) → AllAt P glob j (cfg k).fns) (hob : ∀ k, AllP (bodyL (cfg k) fn)) (h0 : ∀ v, e.f 0 v = none)
    (hev : ∀ k v, e.f (k + 1) v = evFn (cfg k) fn e.ar e.res (e.ar.st glob v) some) : Sound P glob e := by
  simp only [Bool.and_eq_true] at hc
  have hE := entryFn_of hf hc.1
  refine ⟨hE, fun k => ?_⟩
  induction k using Nat.strongRecOn with
  | _ k ih =>
    cases k with
    | zero => exact ⟨hc.2, fun v o hv => by rw [h0] at hv; cases hv⟩
    | succ k =>
      have := fn_sound Bs.draw (cfg := cfg k) (k := k + 1) hf (⟨by show TTok P (cfg k).tt; rw [(h1 k).1]; exact Bs.tt, by
          show ∀ e ∈ (cfg k).fns, EntryFn P e ∧ EntryOk P (cfg k).glob (cfg k).k e
          rw [(h1 k).2.1, (h1 k).2.2]; exact (hfn k k ⟨hE, ih k (by omega)⟩).mem, by show ∀ n, isGlob n = false → (cfg k).glob n = .free; rw [(h1 k).2.1]; exact Bs.glob⟩)
        (fun c hcb => obl_of fun p hp => (hob k).mem p (by unfold bodyL; rw [hcb]; exact hp)) (fun v => by rw [(h1 k).2.1]; exact hev k v) hc.2
      rw [(h1 k).2.1] at this; exact this

/-- A function of one slice: its contract for data, out of one for nil and one for data that is not nil. -/
theorem sound_nil {glob : Nat → B} {id : Nat} {u : U} {res : Spec} {fN : Nat → (Spec.mk [(0, .c (.lit .nils))] [] []).V → Option res.V} {fX : Nat → (Spec.mk [(0, .c (.slx u))] [] []).V → Option res.V} {fS : Nat → (Spec.mk [(0, .c (.sl u))] [] []).V → Option res.V}
    (sN : Sound P glob ⟨id, ⟨[(0, .c (.lit .nils))], [], []⟩, res, fN⟩) (sX : Sound P glob ⟨id, ⟨[(0, .c (.slx u))], [], []⟩, res, fX⟩)
    (h : ∀ k (l : List (El u)) o, fS k ((l, ()), ()) = some o → fX k ((l, ()), ()) = some o ∧ (l = [] → fN k (((), ()), ()) = some o)) : Sound P glob ⟨id, ⟨[(0, .c (.sl u))], [], []⟩, res, fS⟩ := by
  refine ⟨sN.1, fun k => ⟨rfl, ?_⟩⟩
  rintro ⟨⟨l, _⟩, _⟩ o hv cx φ S w args hg hw hφ m ht hsz
  obtain ⟨hX, hN⟩ := h k l o hv
  have h0 := ht 0
  have h0' : Rep S w (.sl u) l [args.getD 0 undef] := h0
  have h0'' := h0'
  obtain ⟨A, cap, cs, e, hc, hl, hA⟩ := h0''
  injection e with e _
  cases A with
  | none =>
    obtain ⟨hnil, hcap⟩ := hA
    refine (sN.2 k).2 (((), ()), ()) o (hN hnil) cx φ S w args hg hw hφ m (fun i => ?_) hsz
    by_cases hi : i = 0
    · subst hi
      show args.getD 0 undef = .slice none 0 0
      rw [e, hnil, hcap]; rfl
    · show RelV S w φ _ (upd (fun _ => V.bad) 0 _ i) _
      rw [upd_ne _ _ hi]; trivial
  | some a =>
    refine (sX.2 k).2 ((l, ()), ()) o hX cx φ S w args hg hw hφ m (fun i => ?_) hsz
    by_cases hi : i = 0
    · subst hi
      exact ⟨h0', a, _, _, e⟩
    · show RelV S w φ _ (upd (fun _ => V.bad) 0 _ i) _
      rw [upd_ne _ _ hi]; trivial
end Go.Proofs.YtkimeoknckohfaaDoor.R1
