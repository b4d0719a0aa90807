/- The abstract run of the translation's code: what a cut's specification is, calls by a table, and the run itself. Definitions alone. -/
import Derived.Test.YtkimeoknckohfaaDoorR1Core
import Derived.Orders
namespace Go.Proofs.YtkimeoknckohfaaDoor.R1

/-! ### Specifications of states -/
inductive CK where
  | int (k : IntKind) | bool | str | sl (u : U) | slx (u : U)
  | row (n : Nat)
  | tail (n sz : Nat)
  | box (n : Nat)
  | dp (u : U)
  | lit (c : C)
  | cap (g c : CK)
  | mapr (n : Nat)
  | mapl (n : Nat)

inductive VK where
  | c (k : CK)
  | agg (ks : List CK)

inductive BK where
  | row (e : Nat) (u : U)
  | box (t : Nat) (ks : List CK)
  | own (e : Nat) (o : O)
  | mp (t : Nat) (ka va : Bool) (ku vu : U)

@[reducible] def CK.T : CK → Type
  | .int _ => Int
  | .bool => Bool
  | .str => ByteArray
  | .sl u => List (El u)
  | .slx u => List (El u)
  | .dp u => El u
  | .tail .. => Nat
  | .cap g c => g.T × c.T
  | .mapr _ => Bool
  | .mapl _ => Bool
  | _ => Unit

@[reducible] def CKsT : List CK → Type
  | [] => Unit
  | k :: r => k.T × CKsT r

@[reducible] def VK.T : VK → Type
  | .c k => k.T
  | .agg ks => CKsT ks

@[reducible] def VKsT : List (Nat × VK) → Type
  | [] => Unit
  | (_, k) :: r => k.T × VKsT r

@[reducible] def BK.T : BK → Type
  | .row _ u => List (El u)
  | .box _ ks => CKsT ks
  | .own _ o => List (El o.u)
  | .mp _ _ _ ku vu => List (El ku × El vu)

@[reducible] def BKsT : List (Nat × BK) → Type
  | [] => Unit
  | (_, k) :: r => k.T × BKsT r

structure Spec where
  temps : List (Nat × VK)
  blocks : List (Nat × BK) := []
  ren : List (Nat × Option Nat) := []

@[reducible] def Spec.V (s : Spec) : Type := VKsT s.temps × BKsT s.blocks

def CK.mk : (k : CK) → k.T → C
  | .int k, n => .int k n
  | .bool, b => .bool b
  | .str, s => .str s
  | .sl u, l => .sl u l
  | .slx u, l => .slx u l
  | .row n, _ => .row n
  | .tail n sz, i => .tail n i sz
  | .box n, _ => .ptr n 0 0 0
  | .dp u, x => .dptr u x 0
  | .lit c, _ => c
  | .cap g c, x => .cap (g.mk x.1) (c.mk x.2)
  | .mapr n, b => .mapr b n
  | .mapl n, b => .mapr b n

def CKsMk : (ks : List CK) → CKsT ks → List C
  | [], _ => []
  | k :: r, x => k.mk x.1 :: CKsMk r x.2

def VK.mkW : (k : VK) → k.T → W1
  | .c k, x => .c (k.mk x)
  | .agg ks, x => .agg (CKsMk ks x)

def BK.mk : (k : BK) → k.T → B
  | .row e u, l => .row e u l
  | .box t ks, x => .box t (CKsMk ks x)
  | .own e o, l => .own e o l
  | .mp t ka va ku vu, l => .mp t ka va ku vu l

def tempsOf : (ts : List (Nat × VK)) → VKsT ts → Nat → V
  | [], _ => fun _ => .bad
  | (i, k) :: r, x => upd (tempsOf r x.2) i (.v (k.mkW x.1))

def blocksOf (base : Nat → B) : (bs : List (Nat × BK)) → BKsT bs → Nat → B
  | [], _ => base
  | (i, k) :: r, x => upd (blocksOf base r x.2) i (k.mk x.1)

def Spec.st (glob : Nat → B) (s : Spec) (v : s.V) : St := ⟨tempsOf s.temps v.1, blocksOf glob s.blocks v.2⟩

/-- Names: of the specification, and of the state that is read (none: nil). -/
structure Ren where
  map : List (Nat × Option Nat)
  frz : List Nat

def sameName (map : List (Nat × Option Nat)) (n m : Nat) : Bool :=
  match assoc map n with
  | some (some x) => Nat.beq x m
  | some none => false
  | none => isGlob n && Nat.beq n m

def litEq (map : List (Nat × Option Nat)) : C → C → Bool
  | .row n, .row m => sameName map n m
  | .ptr n i sz off, .ptr m i' sz' off' => sameName map n m && Nat.beq i i' && Nat.beq sz sz' && Nat.beq off off'
  | .nils, .nils => true
  | .nilp, .nilp => true
  | .nilf, .nilf => true
  | .fn f, .fn g => Nat.beq f g
  | .cap g c, .cap g' c' => litEq map g g' && litEq map c c'
  | .nilm, .nilm => true
  | _, _ => false

def CK.ext (h : Nat → B) : (k : CK) → C → Ren → Option (k.T × Ren)
  | .int k => fun c r => match c with
    | .int k' n => if k' = k then some (n, r) else none
    | _ => none
  | .bool => fun c r => match c with
    | .bool b => some (b, r)
    | _ => none
  | .str => fun c r => match c with
    | .str s => some (s, r)
    | _ => none
  | .sl u => fun c r => match dataSl h u c with
    | some l => some (l, match c with | .row m => { r with frz := m :: r.frz } | _ => r)
    | none => none
  | .slx u => fun c r => match c with
    | .slx u' l => if e : u' = u then some (e ▸ l, r) else none
    | _ => none
  | .row n => fun c r => match c with
    | .row m => some ((), { r with map := (n, some m) :: r.map })
    | .nils => some ((), { r with map := (n, none) :: r.map })
    | _ => none
  | .tail n sz => fun c r => match c with
    | .tail m i sz' => bif sameName r.map n m && Nat.beq sz' sz then some (i, r) else none
    | _ => none
  | .box n => fun c r => match c with
    | .ptr m i _ off => match i, off with
      | 0, 0 => some ((), { r with map := (n, some m) :: r.map })
      | _, _ => none
    | _ => none
  | .dp u => fun c r => match c with
    | .dptr u' x off => match off with
      | 0 => if e : u' = u then some (e ▸ x, r) else none
      | _ => none
    | .ptr m i _ off => match i, off, h m with
      | 0, 0, .box _ cs => match datum h u cs with
        | some x => some (x, { r with frz := m :: (rowsIn cs ++ r.frz) })
        | none => none
      | _, _, _ => none
    | _ => none
  | .lit c => fun c' r => bif litEq r.map c c' then some ((), r) else none
  | .cap g c => fun c' r => match c' with
    | .cap g' c' => match g.ext h g' r with
      | some (x, r) => match c.ext h c' r with
        | some (y, r) => some ((x, y), r)
        | none => none
      | none => none
    | _ => none
  | .mapr n => fun c r => match c with
    | .mapr b m => some (b, { r with map := (n, some m) :: r.map })
    | .nilm => some (true, { r with map := (n, none) :: r.map })
    | _ => none
  | .mapl n => fun c r => match c with
    | .mapr b m => bif sameName r.map n m then some (b, r) else none
    | _ => none

def CKsExt (h : Nat → B) : (ks : List CK) → List C → Ren → Option (CKsT ks × Ren)
  | [] => fun cs r => match cs with
    | [] => some ((), r)
    | _ :: _ => none
  | k :: ks => fun cs r => match cs with
    | c :: cs => match k.ext h c r with
      | some (x, r) => match CKsExt h ks cs r with
        | some (y, r) => some ((x, y), r)
        | none => none
      | none => none
    | [] => none

def VK.ext (h : Nat → B) : (k : VK) → V → Ren → Option (k.T × Ren)
  | .c k => fun v r => match v with
    | .v (.c x) => k.ext h x r
    | _ => none
  | .agg ks => fun v r => match v with
    | .v (.agg xs) => CKsExt h ks xs r
    | _ => none

def VKsExt (st : St) : (ts : List (Nat × VK)) → Ren → Option (VKsT ts × Ren)
  | [], r => some ((), r)
  | (i, k) :: ts, r => match k.ext st.h (st.t i) r with
    | some (x, r) => match VKsExt st ts r with
      | some (y, r) => some ((x, y), r)
      | none => none
    | none => none

def BK.ext (h : Nat → B) : (k : BK) → Option Nat → Ren → Option (k.T × Ren)
  | .row e u => fun m r => match m with
    | some m => match h m with
      | .row e' u' l => bif Nat.beq e' e then (if q : u' = u then some (q ▸ l, r) else none) else none
      | _ => none
    | none => match Nat.blt 0 u.n with
      | true => some ([], r)
      | false => none
  | .box t ks => fun m r => match m with
    | some m => match h m with
      | .box t' cs => bif Nat.beq t' t then CKsExt h ks cs r else none
      | _ => none
    | none => none
  | .own e o => fun m r => match m with
    | some m => match h m with
      | .own e' o' l => bif Nat.beq e' e then (if q : o' = o then some (q ▸ l, r) else none) else none
      | _ => none
    | none => match Nat.blt 0 o.u.n with
      | true => some ([], r)
      | false => none
  | .mp t ka va ku vu => fun m r => match m with
    | some m => match h m with
      | .mp t' ka' va' ku' vu' l => bif Nat.beq t' t && sameB ka' ka && sameB va' va then (if q : ku' = ku ∧ vu' = vu then some (q.1 ▸ q.2 ▸ l, r) else none) else none
      | _ => none
    | none => match ku.flat && vu.flat with
      | true => some ([], r)
      | false => none

def BKsExt (h : Nat → B) : (bs : List (Nat × BK)) → Ren → Option (BKsT bs × Ren)
  | [], r => some ((), r)
  | (n, k) :: bs, r => match assoc r.map n with
    | some m => match k.ext h m r with
      | some (x, r) => match BKsExt h bs r with
        | some (y, r) => some ((x, y), r)
        | none => none
      | none => none
    | none => none

def actuals : List (Nat × Option Nat) → List Nat
  | [] => []
  | (_, some m) :: r => m :: actuals r
  | (_, none) :: r => actuals r

/-- Names are one by one, and the blocks'; what is frozen is not kept. -/
def namesOk (blocks : List (Nat × BK)) (r : Ren) : Bool :=
  distinct (r.map.map (·.1)) && distinct (actuals r.map) && r.map.all (fun p => (assoc blocks p.1).isSome) && blocks.all (fun b => !isGlob b.1) && r.frz.all (fun m => !((actuals r.map).any (Nat.beq m)))

/-- Blocks that came in have kept their names. -/
def selfOk (r : Ren) : Bool := r.map.all fun p => !isParam p.1 || (match p.2 with | some m => Nat.beq m p.1 | none => false)

def Spec.ext (s : Spec) (st : St) : Option (s.V × Ren) :=
  match VKsExt st s.temps ⟨s.ren, []⟩ with
  | some (x, r) => match BKsExt st.h s.blocks r with
    | some (y, r) => bif namesOk s.blocks r then some ((x, y), r) else none
    | none => none
  | none => none

def Spec.own (s : Spec) (st : St) : Option s.V :=
  match s.ext st with
  | some (v, r) => match selfOk r with
    | true => some v
    | false => none
  | none => none

/-! ### Functions by a table -/
structure Entry where
  id : Nat
  ar : Spec
  res : Spec
  f : Nat → ar.V → Option res.V

/-- Nothing but rows of its own. -/
def O.flat : O → Bool
  | .d u => u.flat
  | .p a b => a.flat && b.flat
  | .s _ e => e.flat

def C.flat : C → Bool
  | .sl .. => false
  | .slx .. => false
  | .dptr .. => false
  | .cap g c => g.flat && c.flat
  | _ => true

def CK.flat : CK → Bool
  | .sl _ => false
  | .slx _ => false
  | .dp _ => false
  | .lit c => c.flat
  | .cap g c => g.flat && c.flat
  | _ => true

def VK.flat : VK → Bool
  | .c k => k.flat
  | .agg ks => ks.all CK.flat

def BK.flat : BK → Bool
  | .row _ u => u.flat
  | .box _ ks => ks.all CK.flat
  | .own _ o => o.flat
  | .mp _ _ _ ku vu => ku.flat && vu.flat

/-- Nothing in it may be a part of other memory. -/
def Spec.flat (s : Spec) : Bool := s.temps.all (fun p => p.2.flat) && s.blocks.all (fun p => p.2.flat)

def ofList (l : List V) : Nat → V := fun i => (l[i]?).getD .bad

def renN (nm : List (Nat × Nat)) (n : Nat) : Nat := (assoc nm n).getD n

def renC (nm : List (Nat × Nat)) : C → C
  | .row n => .row (renN nm n)
  | .tail n i sz => .tail (renN nm n) i sz
  | .ptr n i sz off => .ptr (renN nm n) i sz off
  | .cap g c => .cap (renC nm g) (renC nm c)
  | .mapr b n => .mapr b (renN nm n)
  | c => c

def W1.ren (nm : List (Nat × Nat)) : W1 → W1
  | .c x => .c (renC nm x)
  | .agg xs => .agg (xs.map (renC nm))

def B.ren (nm : List (Nat × Nat)) : B → B
  | .box t cs => .box t (cs.map (renC nm))
  | b => b

def retsOf : (ts : List (Nat × VK)) → VKsT ts → List W1
  | [], _ => []
  | (_, k) :: r, x => k.mkW x.1 :: retsOf r x.2

/-- The caller's names of the blocks that come back. -/
def backNames (map : List (Nat × Option Nat)) (dst : Nat) : List (Nat × BK) → Nat → List (Nat × Nat)
  | [], _ => []
  | (n, _) :: r, i => match assoc map n with
    | some (some m) => (n, m) :: backNames map dst r i
    | _ => (n, 2000000 + dst * 100 + i) :: backNames map dst r (i + 1)

def goneAll (h : Nat → B) : List (Nat × Option Nat) → Nat → B
  | [] => h
  | (_, some m) :: r => goneAll (upd h m .gone) r
  | _ :: r => goneAll h r

/-- New names are free. -/
def freeAll (h : Nat → B) (map : List (Nat × Option Nat)) : List (Nat × Nat) → Bool
  | [] => true
  | (n, m) :: r => (match assoc map n with
    | some (some _) => true
    | _ => match h m, isKept m with | .free, false => true | _, _ => false) && freeAll h map r

def putBack (nm : List (Nat × Nat)) (h : Nat → B) : (bs : List (Nat × BK)) → BKsT bs → Nat → B
  | [], _ => h
  | (n, k) :: r, x => upd (putBack nm h r x.2) (renN nm n) ((k.mk x.1).ren nm)

def retV : List W1 → V
  | [w] => .v w
  | ws => .tup ws

variable {ρ : Type}

def callEnt (k : Nat) (st : St) (dst : Nat) (args : List V) (e : Entry) (κ : V → St → Option ρ) (other : Option ρ) : Option ρ :=
  match e.ar.ext ⟨ofList args, st.h⟩, Nat.beq args.length e.ar.temps.length with
  | some (v, r), true =>
    (e.f k v).bind fun o =>
      match freeAll st.h r.map (backNames r.map dst e.res.blocks 0), distinct ((backNames r.map dst e.res.blocks 0).map (·.2)) with
      | true, true =>
        κ (retV ((retsOf e.res.temps o.1).map (W1.ren (backNames r.map dst e.res.blocks 0))))
          { st with h := putBack (backNames r.map dst e.res.blocks 0) (goneAll (match e.res.flat with | true => st.h | false => freezeAll st.h r.frz) r.map) e.res.blocks o.2 }
      | _, _ => none
  | _, _ => other

def callIn (k : Nat) (st : St) (dst f : Nat) (args : List V) (κ : V → St → Option ρ) : List Entry → Option ρ
  | [] => none
  | e :: r => match Nat.beq e.id f with
    | true => callEnt k st dst args e κ (callIn k st dst f args κ r)
    | false => callIn k st dst f args κ r

/-- A function value laid open: its number, and what it has captured. -/
def openFn : C → List V → Option (Nat × List V)
  | .fn f, acc => some (f, acc)
  | .cap g c, acc => openFn g (.v (.c c) :: acc)
  | _, _ => none

structure Cfg where
  tt : TT
  n : Nat              -- how many temporaries
  fns : List Entry
  trunc : List Nat := []     -- slices of a row that take the row over
  tails : List Nat := []     -- slices that are views of a row's tail
  touch : List (Nat × List (Nat × List Nat)) := []     -- of regions in no order: what operations write but their own
  opens : List Nat := []     -- loads that lay an element open
  shapes : List (Nat × O) := []     -- rows that are made with rows of their own
  closes : List (Nat × List Nat) := []     -- behind a region: what is closed
  whole : Bool := false     -- elements with rows of their own are stored whole
  boxes : List Nat := []     -- arrays that are variables in memory part by part
  k : Nat
  glob : Nat → B := fun _ => .free

def Cfg.ty (cfg : Cfg) (t : Nat) : Option TI := assoc cfg.tt t

def Cfg.allocK (cfg : Cfg) (d : Nat) (k : TK) : TK := bif cfg.boxes.any (Nat.beq d) then .other else k

def capAll (g : C) : List V → Option C
  | [] => some g
  | .v (.c c) :: r => capAll (.cap g c) r
  | _ => none

def lenOf (st : St) (i : TI) (x : C) : Option Int :=
  match i.k, x with
  | .sl _, .sl _ l => some (l.length : Int)
  | .sl _, .slx _ l => some (l.length : Int)
  | .sl _, .nils => some 0
  | .str, .str s => some (s.size : Int)
  | .sl _, .row n => match st.h n with
    | .row _ _ l => some (l.length : Int)
    | .ro _ _ l => some (l.length : Int)
    | .own _ _ l => some (l.length : Int)
    | .opn _ _ l .. => some (l.length : Int)
    | _ => none
  | .sl _, .tail n j _ => match st.h n with
    | .row _ _ l => some ((l.length - j : Nat) : Int)
    | _ => none
  | _, _ => none

def minMax (isMax : Bool) : C → List V → Option C
  | x, [] => some x
  | .int k x, .v (.c (.int k' y)) :: r => if k' = k then minMax isMax (.int k (bif isMax then (bif decide (y > x) then y else x) else (bif decide (y < x) then y else x))) r else none
  | _, _ => none

def indexAddr (st : St) (i : TI) (esz : Nat) (x : C) (j : Int) (κ : C → Option ρ) : Option ρ :=
  match i.k, x with
  | .sl _, .sl u l => match Nat.beq esz u.n && Nat.blt 0 u.n with
    | true => (getI l j).bind fun x => κ (.dptr u x 0)
    | false => none
  | .sl _, .row n => match st.h n with
    | .row _ u l => match Nat.beq esz u.n with
      | true => bif decide (0 ≤ j) && decide (j < (l.length : Int)) then κ (.ptr n j.toNat u.n 0) else none
      | false => none
    | .ro _ u l => match Nat.beq esz u.n with
      | true => bif decide (0 ≤ j) && decide (j < (l.length : Int)) then κ (.ptr n j.toNat u.n 0) else none
      | false => none
    | .own _ o l => match Nat.beq esz o.u.n with
      | true => bif decide (0 ≤ j) && decide (j < (l.length : Int)) then κ (.ptr n j.toNat o.u.n 0) else none
      | false => none
    | .opn _ o l .. => match Nat.beq esz o.u.n with
      | true => bif decide (0 ≤ j) && decide (j < (l.length : Int)) then κ (.ptr n j.toNat o.u.n 0) else none
      | false => none
    | _ => none
  | .sl _, .tail n i sz => match st.h n with
    | .row _ u l => match Nat.beq esz u.n && Nat.beq sz u.n with
      | true => bif decide (0 ≤ j) && decide (j < ((l.length - i : Nat) : Int)) then κ (.ptr n (i + j.toNat) u.n 0) else none
      | false => none
    | _ => none
  | .arr len _, .dptr u x off => match Nat.blt 0 esz with
    | true => bif decide (0 ≤ j) && decide (j < (len : Int)) then κ (.dptr u x (off + j.toNat * esz)) else none
    | false => none
  | .arr len _, .ptr n i sz off => match st.h n with
    | .row _ u l => match Nat.beq esz u.n with
      | true => match i, Nat.beq off 0 with
        | 0, true => bif decide (0 ≤ j) && decide (j < (len : Int)) then κ (.ptr n j.toNat u.n 0) else none
        | _, _ => none
      | false => match Nat.blt 0 esz with
        | true => bif decide (0 ≤ j) && decide (j < (len : Int)) then κ (.ptr n i sz (off + j.toNat * esz)) else none
        | false => none
    | .ro _ u l => match Nat.beq esz u.n with
      | true => match i, Nat.beq off 0 with
        | 0, true => bif decide (0 ≤ j) && decide (j < (len : Int)) then κ (.ptr n j.toNat u.n 0) else none
        | _, _ => none
      | false => match Nat.blt 0 esz with
        | true => bif decide (0 ≤ j) && decide (j < (len : Int)) then κ (.ptr n i sz (off + j.toNat * esz)) else none
        | false => none
    | .box _ _ => match i, Nat.blt 0 esz with
      | 0, true => bif decide (0 ≤ j) && decide (j < (len : Int)) then κ (.ptr n 0 0 (off + j.toNat * esz)) else none
      | _, _ => none
    | _ => none
  | _, _ => none

/-- A place in a short array, one after the other. -/
def splitI : Nat → Nat → Int → (Nat → Option ρ) → Option ρ
  | 0, _, _, _ => none
  | m + 1, i, j, κ => bif decide (j = (i : Int)) then κ i else splitI m (i + 1) j κ

/-- An array in a variable in memory: its name, how many parts, where it lies. -/
def boxArr (st : St) (ti : TI) (a : C) : Option (Nat × Nat × Nat) := match ti.k, a with
  | .arr len _, .ptr n i _ off => match i, st.h n with
    | 0, .box _ _ => some (n, len, off)
    | _, _ => none
  | _, _ => none

def elemSize (cfg : Cfg) : TK → Nat
  | .arr _ e => match cfg.ty e with
    | some i => i.size
    | none => 0
  | .sl e => match cfg.ty e with
    | some i => i.size
    | none => 0
  | _ => 0

/-- Where the parts of a struct or an array lie, and their types. -/
def fieldsOf (cfg : Cfg) : TK → Option (List (Nat × Nat))
  | .struct fs => some fs
  | .arr n e => match cfg.ty e with
    | some i => some ((List.range n).map fun j => (j * i.size, e))
    | none => none
  | _ => none

def sub {α : Type} (xs : List α) (l h : Int) : List α := (xs.take h.toNat).drop l.toNat

def sliceOp (st : St) (i : TI) (esz : Nat) (trunc : Bool) (dst : Nat) (x : C) (lo hi : Option Int) (κ : V → St → Option ρ) : Option ρ :=
  match i.k, x with
  | .str, .str s =>
    bif decide (0 ≤ lo.getD 0) && decide (lo.getD 0 ≤ hi.getD s.size) && decide (hi.getD s.size ≤ (s.size : Int)) then κ (.v (.c (.str (s.extract (lo.getD 0).toNat (hi.getD s.size).toNat)))) st else none
  | .sl _, .sl u xs => match Nat.beq esz u.n && Nat.blt 0 u.n with
    | true => bif decide (0 ≤ lo.getD 0) && decide (lo.getD 0 ≤ hi.getD xs.length) && decide (hi.getD xs.length ≤ (xs.length : Int)) then κ (.v (.c (.sl u (sub xs (lo.getD 0) (hi.getD xs.length))))) st else none
    | false => none
  | .sl _, .row n => match st.h n with
    | .row e u xs => match Nat.beq esz u.n with
      | true =>
        bif trunc then match lo, hi with
          | none, some h => bif decide (0 ≤ h) && decide (h ≤ (xs.length : Int)) then newRow { st with h := upd st.h n .gone } dst e u (xs.take h.toNat) (κ (.v (.c (.row dst)))) else none
          | _, _ => none
        else
          bif decide (0 ≤ lo.getD 0) && decide (lo.getD 0 ≤ hi.getD xs.length) && decide (hi.getD xs.length ≤ (xs.length : Int)) then κ (.v (.c (.sl u (sub xs (lo.getD 0) (hi.getD xs.length))))) { st with h := upd st.h n (.ro e u xs) } else none
      | false => none
    | .ro _ u xs => match Nat.beq esz u.n with
      | true => bif decide (0 ≤ lo.getD 0) && decide (lo.getD 0 ≤ hi.getD xs.length) && decide (hi.getD xs.length ≤ (xs.length : Int)) then κ (.v (.c (.sl u (sub xs (lo.getD 0) (hi.getD xs.length))))) st else none
      | false => none
    | _ => none
  | _, _ => none

/-- The tail of a row, as a view. -/
def tailOp (st : St) (i : TI) (esz : Nat) (x : C) (lo hi : Option Int) (κ : C → Option ρ) : Option ρ :=
  match i.k, x, lo, hi with
  | .sl _, .row n, some l, none => match st.h n with
    | .row _ u xs => match Nat.beq esz u.n with
      | true => bif decide (0 ≤ l) && decide (l ≤ (xs.length : Int)) then κ (.tail n l.toNat u.n) else none
      | false => none
    | _ => none
  | _, _, _, _ => none

def clearFrom {α : Type} (l : List α) (i : Nat) (z : α) : List α := l.take i ++ List.replicate (l.length - i) z

/-- A row's tail is cleared. -/
def clearOp (cfg : Cfg) (st : St) (i : TI) (x : C) (κ : V → St → Option ρ) : Option ρ :=
  match i.k, x with
  | .sl e, .tail n j sz => match cfg.ty e, st.h n with
    | some ie, .row e' u l => match Nat.beq sz u.n, (if u = ie.u then true else false), Nat.beq ie.zero.length ie.size with
      | true, true, true => match datum st.h u ie.zero with
        | some z => κ (.tup []) { st with h := upd st.h n (.row e' u (clearFrom l j z)) }
        | none => none
      | _, _, _ => none
    | _, _ => none
  | _, _ => none

def intOpt (st : St) : Option Operand → Option (Option Int)
  | none => some none
  | some x => match opnd st x with
    | .v (.c (.int _ n)) => some (some n)
    | _ => none

def Oper.name (o : Oper) : Nat := o.dst.getD 0

/-- Bytes as a string. -/
def bytesStr (l : List Int) : ByteArray := l.foldl (fun r n => r.push (UInt8.ofNat n.toNat)) ByteArray.empty

def conv (cfg : Cfg) (st : St) (i j : TI) (c : C) (κ : C → Option ρ) : Option ρ :=
  match c with
  | .int _ n => match j.k with
    | .int k => κ (.int k (k.wrap n))
    | _ => none
  | c => match j.k, i.k with
    | .str, .sl e => match cfg.ty e with
      | some ie => match ie.k with
        | .int .u8 => match dataSl st.h (.int .u8) c with
          | some l => κ (.str (bytesStr l))
          | none => none
        | _ => none
      | none => none
    | _, _ => none

/-- An operation's value, and the state behind it. -/
def evOp (cfg : Cfg) (st : St) (o : Oper) (κ : V → St → Option ρ) : Option ρ :=
  match o.op with
  | .move x | .assign x => κ (opnd st x) st
  | .pick c a b => match opnd st c with
    | .v (.c (.bool t)) => bif t then κ (opnd st a) st else κ (opnd st b) st
    | _ => none
  | .alloc t => match cfg.ty t with
    | some i => match cfg.allocK (Oper.name o) i.k with
      | .arr n e => match cfg.ty e with
        | some ie => match dataList st.h ie.u n i.zero with
          | some l => bif Nat.ble n 16777216 && Nat.beq i.zero.length i.size then newRow st (Oper.name o) t ie.u l (κ (.v (.c (.ptr (Oper.name o) 0 ie.u.n 0)))) else none
          | none => none
        | none => none
      | _ => bif Nat.beq i.zero.length i.size then newBlock st (Oper.name o) (.box t i.zero) (κ (.v (.c (.ptr (Oper.name o) 0 0 0)))) else none
    | none => none
  | .box t x => match cfg.ty t, (opnd st x).cells with
    | some i, some cs => match i.k with
      | .arr n e => match cfg.ty e with
        | some ie => match dataList st.h ie.u n cs with
          | some l => bif Nat.ble n 16777216 then newRow { st with h := freezeAll st.h (rowsIn cs) } (Oper.name o) t ie.u l (κ (.v (.c (.ptr (Oper.name o) 0 ie.u.n 0)))) else none
          | none => none
        | none => none
      | _ => newBlock st (Oper.name o) (.box t cs) (κ (.v (.c (.ptr (Oper.name o) 0 0 0))))
    | _, _ => none
  | .build t parts => match cfg.ty t with
    | some i => match fieldsOf cfg i.k with
      | some fs => match fillParts fs (fun t => (cfg.ty t).map (·.size)) (parts.toList.map fun p => (p.1, opnd st p.2)) i.zero, Nat.beq i.zero.length i.size with
        | some cs, true => κ (.v (.agg cs)) st
        | _, _ => none
      | none => none
    | none => none
  | .buildSlice t len parts => match cfg.ty t with
    | some i => match i.k with
      | .sl e => match cfg.ty e with
        | some ie => match assoc cfg.shapes (Oper.name o) with
         | some sh => match ownList st.h sh 0 (parts.toList.map fun p => (p.1, opnd st p.2)) with
          | some (l, ns) => match distinct ns, (if sh.u = ie.u then true else false) with
            | true, true => bif Nat.beq l.length len && Nat.ble (len * ie.size) (2 ^ 24) then newOwn { st with h := goneL st.h ns } (Oper.name o) e sh l (κ (.v (.c (.row (Oper.name o))))) else none
            | _, _ => none
          | none => none
         | none => match datum st.h ie.u ie.zero with
          | some z => match putParts st.h (parts.toList.map fun p => (p.1, opnd st p.2)) (List.replicate len z) with
            | some l => bif Nat.ble (len * ie.size) (2 ^ 24) then newRow { st with h := freezeAll st.h (rowsInAll (parts.toList.map fun p => (p.1, opnd st p.2))) } (Oper.name o) e ie.u l (κ (.v (.c (.row (Oper.name o))))) else none
            | none => none
          | none => none
        | none => none
      | _ => none
    | none => none
  | .load t a => match cfg.ty t, (opnd st a).one with
    | some i, some a => bif cfg.opens.any (Nat.beq (Oper.name o)) then openLoad st i a (Oper.name o) κ else load st i a fun v => κ v st
    | _, _ => none
  | .store t a x => match cfg.ty t, (opnd st a).one with
    | some i, some a => store cfg.whole st i a (opnd st x) fun st => κ .und st
    | _, _ => none
  | .nilCheck x => match opnd st x with
    | .v (.c (.ptr n i sz off)) => κ (.v (.c (.ptr n i sz off))) st
    | .v (.c (.dptr u x off)) => κ (.v (.c (.dptr u x off))) st
    | .v (.c (.fn f)) => κ (.v (.c (.fn f))) st
    | .v (.c (.cap g c)) => κ (.v (.c (.cap g c))) st
    | _ => none
  | .binOp op t x y _ => bin cfg.tt t op (opnd st x) (opnd st y) fun c => κ (.v (.c c)) st
  | .unOp op _ x => un op (opnd st x) fun c => κ (.v (.c c)) st
  | .convert s d x => match cfg.ty s, cfg.ty d, opnd st x with
    | some i, some j, .v (.c c) => conv cfg st i j c fun c => κ (.v (.c c)) st
    | _, _, _ => none
  | .fieldAddr s x f => match cfg.ty s, (opnd st x).one with
    | some i, some a => match i.k with
      | .struct fs => match fs[f]?, a with
        | some (off, _), .ptr n j sz o => κ (.v (.c (.ptr n j sz (o + off)))) st
        | some (off, _), .dptr u x o => κ (.v (.c (.dptr u x (o + off)))) st
        | _, _ => none
      | _ => none
    | _, _ => none
  | .field s x f => match cfg.ty s, opnd st x with
    | some i, .v (.agg cs) => match i.k with
      | .struct fs => match fs[f]? with
        | some (off, t) => match cfg.ty t with
          | some ti => match take? off ti.size cs with
            | some cs => match asV ti.agg cs with
              | some v => κ v st
              | none => none
            | none => none
          | none => none
        | none => none
      | _ => none
    | _, _ => none
  | .indexAddr t x i => match cfg.ty t, (opnd st x).one, opnd st i with
    | some ti, some a, .v (.c (.int _ j)) => match boxArr st ti a with
      | some (n, len, off) => match Nat.blt 0 (elemSize cfg ti.k) with
        | true => splitI len 0 j fun q => κ (.v (.c (.ptr n 0 0 (off + q * elemSize cfg ti.k)))) st
        | false => none
      | none => indexAddr st ti (elemSize cfg ti.k) a.weak j fun c => κ (.v (.c c)) st
    | _, _, _ => none
  | .index t x i => match cfg.ty t, opnd st x, opnd st i with
    | some ti, .v (.c (.str s)), .v (.c (.int _ j)) => match ti.k with
      | .str => (if 0 ≤ j then s[j.toNat]? else none).bind fun b => κ (.v (.c (.int .u8 b.toNat))) st
      | _ => none
    | some ti, .v (.agg cs), .v (.c (.int _ j)) => match ti.k with
      | .arr len e => splitI len 0 j fun q => match partW cfg.tt e cs (q * elemSize cfg ti.k) with
        | some w => κ (.v w) st
        | none => none
      | _ => none
    | _, _, _ => none
  | .slice t x lo hi none => match cfg.ty t, (opnd st x).one, intOpt st lo, intOpt st hi with
    | some i, some c, some lo, some hi => bif cfg.tails.any (Nat.beq (Oper.name o)) then tailOp st i (elemSize cfg i.k) c lo hi (fun c => κ (.v (.c c)) st) else sliceOp st i (elemSize cfg i.k) (cfg.trunc.any (Nat.beq (Oper.name o))) (Oper.name o) c.weak lo hi κ
    | _, _, _, _ => none
  | .makeMap t none => match cfg.ty t with
    | some i => match i.k with
      | .map k e => match cfg.ty k, cfg.ty e with
        | some ik, some ie => match ik.u.flat && ie.u.flat with
          | true => newBlock st (Oper.name o) (.mp t ik.agg ie.agg ik.u ie.u []) (κ (.v (.c (.mapr false (Oper.name o)))))
          | false => none
        | _, _ => none
      | _ => none
    | none => none
  | .lookup t x key ok => match cfg.ty t with
    | some i => match i.k with
      | .map k e => match cfg.ty k, cfg.ty e with
        | some ik, some ie => match Nat.beq ie.zero.length ie.size with
          | true => lookupW st ik ie (datum (fun _ => .free) ie.u ie.zero) (keyEq cfg.tt k ik.u) t (opnd st x) (opnd st key) ok fun v => κ v st
          | false => none
        | _, _ => none
      | _ => none
    | none => none
  | .mapUpdate t x key val => match cfg.ty t with
    | some i => match i.k with
      | .map k e => match cfg.ty k, cfg.ty e with
        | some ik, some ie => updateW st ik ie (keyEq cfg.tt k ik.u) t (opnd st x) (opnd st key) (opnd st val) fun st => κ .und st
        | _, _ => none
      | _ => none
    | none => none
  | .mapEntry t x key => match cfg.ty t with
    | some i => match i.k with
      | .map k e => match cfg.ty k, cfg.ty e with
        | some ik, some ie => match Nat.beq ie.zero.length ie.size with
          | true => entryW st ik ie (datum (fun _ => .free) ie.u ie.zero) (keyEq cfg.tt k ik.u) t (opnd st x) (opnd st key) κ
          | false => none
        | _, _ => none
      | _ => none
    | none => none
  | .entryStore t x stamp val => match cfg.ty t with
    | some i => match i.k with
      | .map _ e => match cfg.ty e with
        | some ie => entrySetW st ie t (opnd st x) (opnd st stamp) (opnd st val) fun st => κ .und st
        | none => none
      | _ => none
    | none => none
  | .extract x i => match opnd st x with
    | .tup ws => match ws[i]? with
      | some w => κ (.v w) st
      | none => none
    | _ => none
  | .makeFunc (.func f) first captured => match first.toList, capAll (.fn f) (captured.toList.map (opnd st)) with
    | [], some c => κ (.v (.c c)) st
    | _, _ => none
  | .makeSlice t l c => match cfg.ty t, opnd st l, opnd st c with
    | some i, .v (.c (.int _ n)), .v (.c (.int _ m)) => match i.k with
      | .sl e => match cfg.ty e with
        | some ie => match assoc cfg.shapes (Oper.name o) with
         | some sh => match closeC st.h sh ie.zero with
          | some (z, [], []) => match (if sh.u = ie.u then true else false) with
            | true => bif decide (n = m) && decide (0 ≤ n) && decide (n * ie.bytes ≤ roomy) then
                newOwn st (Oper.name o) e sh (List.replicate n.toNat z) (κ (.v (.c (.row (Oper.name o)))))
              else none
            | false => none
          | _ => none
         | none => match datum st.h ie.u ie.zero with
          | some z => bif decide (n = m) && decide (0 ≤ n) && decide (n * ie.bytes ≤ roomy) then
              newRow st (Oper.name o) e ie.u (List.replicate n.toNat z) (κ (.v (.c (.row (Oper.name o)))))
            else none
          | none => none
        | none => none
      | _ => none
    | _, _, _ => none
  | .call c => match c.callee with
    | .builtin .len => match c.args.toList.map (opnd st), c.argTypes.toList with
      | [.v (.c x)], [t] => match cfg.ty t with
        | some i => match lenOf st i x with
          | some n => κ (.v (.c (.int .i64 n))) st
          | none => none
        | none => none
      | _, _ => none
    | .builtin .append => match c.args.toList.map (opnd st), c.argTypes.toList with
      | [.v (.c s), .v (.c x)], [t, t'] => match cfg.ty t, Nat.beq t t' with
        | some i, true => match i.k with
          | .sl e => match cfg.ty e with
            | some ie => match assoc cfg.shapes (Oper.name o) with
              | some sh => appendOwn st (Oper.name o) e sh ie s x κ
              | none => append st (Oper.name o) e ie s x κ
            | none => none
          | _ => none
        | _, _ => none
      | _, _ => none
    | .builtin .max => match c.args.toList.map (opnd st) with
      | .v (.c x) :: r => match minMax true x r with
        | some c => κ (.v (.c c)) st
        | none => none
      | _ => none
    | .builtin .min => match c.args.toList.map (opnd st) with
      | .v (.c x) :: r => match minMax false x r with
        | some c => κ (.v (.c c)) st
        | none => none
      | _ => none
    | .builtin .clear => match c.args.toList.map (opnd st), c.argTypes.toList with
      | [.v (.c x)], [t] => match cfg.ty t with
        | some i => clearOp cfg st i x κ
        | none => none
      | _, _ => none
    | .builtin _ => none
    | .invoke .. => none
    | .value f => match (opnd st f).one with
      | some g => match openFn g [] with
        | some (n, caps) => callIn cfg.k st (Oper.name o) n (c.args.toList.map (opnd st) ++ caps) κ cfg.fns
        | none => none
      | none => none
  | _ => none

def put (cfg : Cfg) (st : St) (d : Option Nat) (v : V) (κ : St → Option ρ) : Option ρ :=
  match d with
  | some d => match Nat.blt d cfg.n with
    | true => κ { st with t := upd st.t d v }
    | false => none
  | none => κ st

def evOps (cfg : Cfg) (ops : List Oper) : List Oper → St → (St → Option ρ) → Option ρ
  | [], st, κ => κ st
  | o :: r, st, κ =>
    match o.guard with
    | none => evOp cfg st o fun v st => put cfg st o.dst v fun st => evOps cfg ops r st κ
    | some (j, want) => match (ops[j]?).bind (·.dst) with
      | none => none
      | some d => match st.t d with
        | .v (.c (.bool b)) =>
          bif b then
            (match want with
             | true => evOp cfg { st with t := upd st.t d (.v (.c (.bool true))) } o fun v st => put cfg st o.dst v fun st => evOps cfg ops r st κ
             | false => put cfg { st with t := upd st.t d (.v (.c (.bool true))) } o.dst .und fun st => evOps cfg ops r st κ)
          else
            (match want with
             | true => put cfg { st with t := upd st.t d (.v (.c (.bool false))) } o.dst .und fun st => evOps cfg ops r st κ
             | false => evOp cfg { st with t := upd st.t d (.v (.c (.bool false))) } o fun v st => put cfg st o.dst v fun st => evOps cfg ops r st κ)
        | .und => put cfg st o.dst .und fun st => evOps cfg ops r st κ
        | _ => none

/-- What a call writes. -/
def touchCall (st : St) (dst f : Nat) (args : List V) : List Entry → List Nat
  | [] => []
  | e :: r => match Nat.beq e.id f with
    | true => match e.ar.ext ⟨ofList args, st.h⟩, Nat.beq args.length e.ar.temps.length with
      | some (_, q), true => actuals q.map ++ ((match e.res.flat with | true => [] | false => q.frz) ++ (backNames q.map dst e.res.blocks 0).map (·.2))
      | _, _ => touchCall st dst f args r
    | false => touchCall st dst f args r

def rowsOf : List V → List Nat
  | [] => []
  | .v w :: r => rowsIn w.cells ++ rowsOf r
  | _ :: r => rowsOf r

/-- What an operation writes. -/
def touches (cfg : Cfg) (st : St) (o : Oper) : List Nat :=
  match o.op with
  | .alloc _ | .makeSlice .. | .makeMap .. => [Oper.name o]
  | .mapUpdate _ x _ _ | .mapEntry _ x _ | .entryStore _ x _ _ => match (opnd st x).one with
    | some (.mapr _ n) => [n]
    | _ => []
  | .box t x => Oper.name o :: (match cfg.ty t, (opnd st x).cells with
    | some i, some cs => (match i.k with | .arr .. => rowsIn cs | _ => [])
    | _, _ => [])
  | .buildSlice _ _ parts => Oper.name o :: rowsInAll (parts.toList.map fun p => (p.1, opnd st p.2))
  | .store _ a x => match (opnd st a).one, (opnd st x).cells with
    | some (.ptr n ..), some cs => n :: (match st.h n with | .row .. => rowsIn cs | _ => [])
    | _, _ => []
  | .slice _ x _ _ _ => match cfg.tails.any (Nat.beq (Oper.name o)), (opnd st x).one with
    | false, some (.row n) => (match st.h n with
      | .row .. => (match cfg.trunc.any (Nat.beq (Oper.name o)) with | true => [n, Oper.name o] | false => [n])
      | _ => [])
    | _, _ => []
  | .call c => match c.callee with
    | .builtin .append => match assoc cfg.shapes (Oper.name o) with
      | some _ => Oper.name o :: rowsOf (c.args.toList.map (opnd st))
      | none => match c.args.toList.map (opnd st) with
        | .v (.c (.row n)) :: _ => [n, Oper.name o]
        | _ => [Oper.name o]
    | .builtin .clear => match c.args.toList.map (opnd st) with
      | .v (.c (.tail n ..)) :: _ => [n]
      | _ => []
    | .value f => match (opnd st f).one with
      | some g => match openFn g [] with
        | some (n, caps) => touchCall st (Oper.name o) n (c.args.toList.map (opnd st) ++ caps) cfg.fns
        | none => []
      | none => []
    | _ => []
  | _ => []

/-- The names of an operation's own blocks. -/
def ownK (o : Oper) : Nat := match o.op with
  | .alloc _ | .box .. | .buildSlice .. | .makeSlice .. | .makeMap .. | .slice .. => 1
  | .call _ => 2
  | _ => 0

def ownC (d n : Nat) : Bool := Nat.ble (2000000 + d * 100) n && Nat.blt n (2000000 + d * 100 + 100)

def owns (o : Oper) (n : Nat) : Bool := match ownK o with
  | 1 => Nat.beq n (Oper.name o)
  | 2 => Nat.beq n (Oper.name o) || ownC (Oper.name o) n
  | _ => false

def declared (tch : List (Nat × List Nat)) (i n : Nat) : Bool := tch.any fun p => Nat.beq p.1 i && p.2.any (Nat.beq n)

/-- What the operation at this place may write. -/
def mayW (tch : List (Nat × List Nat)) (o : Oper) (i n : Nat) : Bool := (o.dst.isSome && owns o n) || declared tch i n

def union : List Nat → List Nat → List Nat
  | [], l => l
  | n :: r, l => bif l.any (Nat.beq n) then union r l else n :: union r l

/-- What an operation waits for. -/
def edgesOf (o : Oper) : List Nat := (o.after.toList.filter (Region.binds .any)).map (·.on)

/-- What must come before each of a region's operations. -/
def befores : List Oper → List (List Nat) → List (List Nat)
  | [], acc => acc
  | o :: r, acc => befores r (acc ++ [(edgesOf o).foldr (fun j l => union (j :: (acc[j]?).getD []) l) []])

def befOf (bs : List (List Nat)) (i : Nat) : List Nat := (bs[i]?).getD []

def dstAt (ops : List Oper) (j : Nat) : Option Nat := (ops[j]?).bind (·.dst)

/-- Operations that i may not see: neither ahead of i nor behind it. -/
def loose (bs : List (List Nat)) (i j : Nat) : Bool := !(Nat.beq i j) && !((befOf bs i).any (Nat.beq j)) && !((befOf bs j).any (Nat.beq i))

def blindT (bs : List (List Nat)) (i : Nat) : List Oper → Nat → Nat → Bool
  | [], _, _ => false
  | o :: r, j, n => (match o.dst with | some d => Nat.beq d n && loose bs i j | none => false) || blindT bs i r (j + 1) n

def blindH (bs : List (List Nat)) (tch : List (Nat × List Nat)) (i : Nat) : List Oper → Nat → Nat → Bool
  | [], _, _ => false
  | o :: r, j, n => (mayW tch o j n && loose bs i j) || blindH bs tch i r (j + 1) n

/-- The state with that kept from sight which operations in no order with i write. -/
def restr (bs : List (List Nat)) (tch : List (Nat × List Nat)) (ops : List Oper) (i : Nat) (st : St) : St :=
  ⟨fun n => bif blindT bs i ops 0 n then .bad else st.t n, fun n => bif blindH bs tch i ops 0 n then .gone else st.h n⟩

def distinctO : List (Option Nat) → Bool
  | [] => true
  | none :: r => distinctO r
  | some n :: r => !(r.any fun m => match m with | some m => Nat.beq n m | none => false) && distinctO r

/-- Edges lead back; what an operation waits for is closed; each temporary is written once. -/
def backward : List Oper → Nat → Bool
  | [], _ => true
  | o :: r, i => (edgesOf o).all (fun j => Nat.blt j i) && backward r (i + 1)

def selects (o : Oper) : Bool := match o.op with
  | .select .. => true
  | _ => false

/-- What is declared is not written by another operation in no order with it. -/
def touchOk (bs : List (List Nat)) (tch : List (Nat × List Nat)) (ops : List Oper) : Bool :=
  tch.all fun p => p.2.all fun n => !(isGlob n) && (List.range ops.length).all fun j => !(loose bs p.1 j) || !(match ops[j]? with
    | some o => mayW tch o j n
    | none => false)

def drawable (bs : List (List Nat)) (tch : List (Nat × List Nat)) (ops : List Oper) : Bool :=
  backward ops 0 && distinctO (ops.map (·.dst)) && ops.all (fun o => (match o.dst with | some d => Nat.blt d 10000 | none => true) && !selects o) && touchOk bs tch ops

def V.isBad : V → Bool
  | .bad => true
  | _ => false

/-- What a call is handed is known. -/
def argsOk (st : St) (o : Oper) : Bool := match o.op with
  | .call c => c.args.toList.all fun x => !(opnd st x).isBad
  | _ => true

def evDr (cfg : Cfg) (bs : List (List Nat)) (tch : List (Nat × List Nat)) (ops : List Oper) : Nat → List Oper → St → (St → Option ρ) → Option ρ
  | _, [], st, κ => κ st
  | i, o :: r, st, κ =>
    let run : St → Option ρ := fun st =>
      evOp cfg (restr bs tch ops i st) o fun v st' => match V.isBad v, argsOk (restr bs tch ops i st) o && (touches cfg (restr bs tch ops i st) o).all (mayW tch o i) with
        | false, true => put cfg ⟨st.t, fun n => bif mayW tch o i n then st'.h n else st.h n⟩ o.dst v fun st => evDr cfg bs tch ops (i + 1) r st κ
        | _, _ => none
    let skip : St → Option ρ := fun st => put cfg st o.dst .und fun st => evDr cfg bs tch ops (i + 1) r st κ
    match o.guard with
    | none => run st
    | some (j, want) => match dstAt ops j, (befOf bs i).any (Nat.beq j) with
      | some d, true => match st.t d with
        | .v (.c (.bool b)) =>
          bif b then
            (match want with
             | true => run { st with t := upd st.t d (.v (.c (.bool true))) }
             | false => skip { st with t := upd st.t d (.v (.c (.bool true))) })
          else
            (match want with
             | true => skip { st with t := upd st.t d (.v (.c (.bool false))) }
             | false => run { st with t := upd st.t d (.v (.c (.bool false))) })
        | .und => skip st
        | _ => none
      | _, _ => none

def evDrawT (cfg : Cfg) (bs : List (List Nat)) (tch : List (Nat × List Nat)) (ops : List Oper) (st : St) (κ : St → Option ρ) : Option ρ :=
  match drawable bs tch ops with
  | true => evDr cfg bs tch ops 0 ops st κ
  | false => none

/-- A region whose order is drawn. -/
def evDraw (cfg : Cfg) (id : Nat) (ops : List Oper) (st : St) (κ : St → Option ρ) : Option ρ := evDrawT { cfg with opens := [], whole := false } (befores ops []) ((assoc cfg.touch id).getD []) ops st κ

/-! ### Code -/
inductive Out where
  | normal | exit (i : Nat) | ret

def Out.same : Out → Out → Bool
  | .normal, .normal => true
  | .exit i, .exit j => Nat.beq i j
  | .ret, .ret => true
  | _, _ => false

def firstRegion : Code → Option Nat
  | .region i _ _ => some i
  | .seq a _ => firstRegion a
  | .block _ a => firstRegion a
  | .loop a => firstRegion a
  | _ => none

/-- Loops that a code begins with. -/
def lead : Code → Nat
  | .seq a _ => lead a
  | .block _ a => lead a
  | .loop a => lead a + 1
  | _ => 0

/-- A loop's number: its first region's, and how many loops it begins with. -/
def loopKey (b : Code) : Option Nat := match firstRegion b with
  | some i => some (i + 100000 * lead b)
  | none => none

@[reducible] def NxT (ρ : Type) : List (Out × Spec) → Type
  | [] => Unit
  | (_, s) :: r => (s.V → Option ρ) × NxT ρ r

structure Cut where
  sp : Spec
  outs : List (Out × Spec)
  F : (ρ : Type) → Nat → sp.V → NxT ρ outs → Option ρ

def nxOf (glob : Nat → B) (κ : Out → St → Option ρ) : (outs : List (Out × Spec)) → NxT ρ outs
  | [] => ()
  | (o, s) :: r => (fun v => κ o (s.st glob v), nxOf glob κ r)

/-- Where a cut's continuation is met. -/
def leave : (outs : List (Out × Spec)) → NxT ρ outs → Out → St → Option ρ
  | [], _, _, _ => none
  | (o, s) :: r, nx, o', st => bif o.same o' then (match s.own st with | some v => nx.1 v | none => none) else leave r nx.2 o' st

structure Full extends Cfg where
  cuts : List (Nat × Cut)
  joins : List (Nat × Cut)

def enter (glob : Nat → B) (k : Nat) (ct : Cut) (st : St) (κ : Out → St → Option ρ) : Option ρ :=
  match ct.sp.own st with
  | some v => ct.F ρ k v (nxOf glob κ ct.outs)
  | none => none

/-- Behind a region: what is closed. -/
def closes (cfg : Cfg) (id : Nat) (st : St) : St := match assoc cfg.closes id with
  | some ns => { st with h := closeL st.h ns }
  | none => st

def evC (cfg : Full) : Code → St → (Out → St → Option ρ) → Option ρ
  | .skip, st, κ => κ .normal st
  | .region id ops false, st, κ => evOps cfg.toCfg ops.toList ops.toList st fun st => κ .normal (closes cfg.toCfg id st)
  | .region id ops true, st, κ => evDraw cfg.toCfg id ops.toList st fun st => κ .normal (closes cfg.toCfg id st)
  | .seq a b, st, κ => evC cfg a st fun o st => match o with
    | .normal => match (firstRegion b).bind (assoc cfg.joins) with
      | some ct => enter cfg.glob cfg.k ct st κ
      | none => evC cfg b st κ
    | o => κ o st
  | .cond c x y, st, κ => match opnd st c with
    | .v (.c (.bool b)) => bif b then evC cfg x st κ else evC cfg y st κ
    | _ => none
  | .block i b, st, κ => evC cfg b st fun o st => match o with
    | .exit j => bif Nat.beq j i then κ .normal st else κ (.exit j) st
    | o => κ o st
  | .loop b, st, κ => match (loopKey b).bind (assoc cfg.cuts) with
    | some ct => enter cfg.glob cfg.k ct st κ
    | none => none
  | .exit i, st, κ => κ (.exit i) st
  | .ret, st, κ => κ .ret st
  | _, _, _ => none

/-! ### Functions -/
def resTemps (cfg : Cfg) (st : St) : List ResultVar → (List V → Option ρ) → Option ρ
  | [], κ => κ []
  | .tmp t :: r, κ => resTemps cfg st r fun vs => κ (st.t t :: vs)
  | .cell a t :: r, κ => match cfg.ty t, (st.t a).one with
    | some i, some a => load st i a fun v => resTemps cfg st r fun vs => κ (v :: vs)
    | _, _ => none

def isSeq : List (Nat × VK) → Nat → Bool
  | [], _ => true
  | (i, _) :: r, n => Nat.beq i n && isSeq r (n + 1)

def evFn (cfg : Full) (fn : Func) (ar res : Spec) (st : St) (κ : res.V → Option ρ) : Option ρ :=
  match fn.body, isSeq res.temps 0 && Nat.beq res.temps.length fn.results.size && ar.blocks.all (fun b => isParam b.1) && isSeq ar.temps 0 && Nat.beq cfg.n fn.ntmps && Nat.ble ar.temps.length fn.ntmps with
  | some c, true => evC cfg c st fun o st => match o with
    | .exit _ => none
    | _ => resTemps cfg.toCfg st fn.results.toList fun vs => (res.own ⟨ofList vs, st.h⟩).bind κ
  | _, _ => none

end Go.Proofs.YtkimeoknckohfaaDoor.R1
