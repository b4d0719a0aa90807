/- An abstract run of the translation's code over plain data: slices as lists, variables in memory as boxes. This text holds definitions alone. -/
import Derived.Calls
namespace Go.Proofs.YtkimeoknckohfaaDoor.R1

/-! ### Data -/
inductive U where
  | int (k : IntKind) | bool | str | unit | pair (a b : U) | sl (e : U)
  deriving DecidableEq, Inhabited

@[reducible] def El : U → Type
  | .int _ => Int
  | .bool => Bool
  | .str => ByteArray
  | .unit => Unit
  | .pair a b => El a × El b
  | .sl e => List (El e)

def U.n : U → Nat
  | .unit => 0
  | .pair a b => a.n + b.n
  | _ => 1

def U.flat : U → Bool
  | .pair a b => a.flat && b.flat
  | .sl _ => false
  | _ => true

/-- Shapes of what is a row's own: data, or rows of its own (with their element's type). -/
inductive O where
  | d (u : U) | p (a b : O) | s (t : Nat) (e : O)
  deriving DecidableEq, Inhabited

@[reducible] def O.u : O → U
  | .d u => u
  | .p a b => .pair a.u b.u
  | .s _ e => .sl e.u

/-- A cell's content. -/
inductive C where
  | int (k : IntKind) (n : Int)
  | bool (b : Bool)
  | str (s : ByteArray)
  | sl (u : U) (l : List (El u))
  | nils
  | slx (u : U) (l : List (El u))
  | row (n : Nat)
  | tail (n i sz : Nat)
  | ptr (n i sz off : Nat)
  | dptr (u : U) (x : El u) (off : Nat)
  | nilp
  | nilf
  | fn (f : Nat)
  | cap (g c : C)
  | mapr (b : Bool) (n : Nat)
  | nilm

inductive W1 where
  | c (x : C)
  | agg (xs : List C)

inductive V where
  | bad
  | und
  | v (x : W1)
  | tup (xs : List W1)

/-- A block: a row that may be written, one that may not, a variable in memory. -/
inductive B where
  | free
  | gone
  | row (e : Nat) (u : U) (l : List (El u))
  | ro (e : Nat) (u : U) (l : List (El u))
  | box (t : Nat) (cs : List C)
  | own (e : Nat) (o : O) (l : List (El o.u))
  | opn (e : Nat) (o : O) (l : List (El o.u)) (i : Nat) (cs : List C)
  | mp (t : Nat) (ka va : Bool) (ku vu : U) (l : List (El ku × El vu))
  | glo (q : Obj → Prop)     -- a package variable of which only this is known

structure St where
  t : Nat → V
  h : Nat → B

def upd {α : Type} (f : Nat → α) (i : Nat) (x : α) : Nat → α := fun j => bif Nat.beq j i then x else f j

/-! ### Types -/
inductive TK where
  | int (k : IntKind) | bool | str
  | struct (fs : List (Nat × Nat))
  | arr (n e : Nat)
  | sl (e : Nat)
  | ptr (e : Nat)
  | func
  | map (k e : Nat)
  | other

def C.weak : C → C
  | .slx u l => .sl u l
  | c => c

structure TI where
  k : TK
  size : Nat
  bytes : Nat
  zero : List C
  u : U        -- of what is data
  eq : Bool := false   -- a struct whose values may be compared field by field

abbrev TT := List (Nat × TI)

def assoc.{u} {α : Type u} : List (Nat × α) → Nat → Option α
  | [], _ => none
  | (i, x) :: r, j => bif Nat.beq i j then some x else assoc r j

/-! ### Cells of data -/
def toCells : (u : U) → El u → List C
  | .int k, n => [.int k n]
  | .bool, b => [.bool b]
  | .str, s => [.str s]
  | .unit, _ => []
  | .pair a b, x => toCells a x.1 ++ toCells b x.2
  | .sl e, l => [.sl e l]

/-- A slice's content as data. -/
def dataSl (h : Nat → B) (u : U) : C → Option (List (El u))
  | .sl u' l => if e : u' = u then some (e ▸ l) else none
  | .slx u' l => if e : u' = u then some (e ▸ l) else none
  | .nils => some []
  | .row n => match h n with
    | .row _ u' l => if e : u' = u then some (e ▸ l) else none
    | .ro _ u' l => if e : u' = u then some (e ▸ l) else none
    | .own _ o l => if e : o.u = u then some (e ▸ l) else none
    | _ => none
  | _ => none

def ofCells (h : Nat → B) : (u : U) → List C → Option (El u × List C)
  | .int k => fun cs => match cs with
    | .int k' n :: r => if k' = k then some (n, r) else none
    | _ => none
  | .bool => fun cs => match cs with
    | .bool b :: r => some (b, r)
    | _ => none
  | .str => fun cs => match cs with
    | .str s :: r => some (s, r)
    | _ => none
  | .unit => fun cs => some ((), cs)
  | .pair a b => fun cs => match ofCells h a cs with
    | some (x, r) => match ofCells h b r with
      | some (y, r) => some ((x, y), r)
      | none => none
    | none => none
  | .sl e => fun cs => match cs with
    | c :: r => match dataSl h e c with
      | some l => some (l, r)
      | none => none
    | [] => none

/-- The names of rows in cells. -/
def rowsIn : List C → List Nat
  | [] => []
  | .row n :: r => n :: rowsIn r
  | _ :: r => rowsIn r

def B.freeze : B → B
  | .row e u l => .ro e u l
  | .own e o l => .ro e o.u l
  | .box .. => .gone
  | .opn .. => .gone
  | .mp .. => .gone
  | b => b

def freezeAll (h : Nat → B) : List Nat → Nat → B
  | [] => h
  | n :: r => freezeAll (upd h n (h n).freeze) r

def datum (h : Nat → B) (u : U) (cs : List C) : Option (El u) :=
  match ofCells h u cs with
  | some (x, []) => some x
  | _ => none

/-- Elements one after the other. -/
def dataList (h : Nat → B) (u : U) : Nat → List C → Option (List (El u))
  | 0, cs => match cs with
    | [] => some []
    | _ :: _ => none
  | n + 1, cs => match ofCells h u cs with
    | some (x, r) => match dataList h u n r with
      | some l => some (x :: l)
      | none => none
    | none => none

/-! ### Operands -/
def ofCell : Value → Option C
  | .int k n => some (.int k n)
  | .bool b => some (.bool b)
  | .string s => some (.str s)
  | .slice a n c => match a, n, c with
    | none, 0, 0 => some .nils
    | _, _, _ => none
  | .pointer a => match a with
    | none => some .nilp
    | some _ => none
  | .nilFunc => some .nilf
  | .map r => match r with
    | none => some .nilm
    | some _ => none
  | .func g x y => match g, x.toList, y.toList with
    | .func f, [], [] => some (.fn f)
    | _, _, _ => none
  | _ => none

def ofCellList : List Value → Option (List C)
  | [] => some []
  | v :: r => match ofCell v with
    | some c => match ofCellList r with
      | some cs => some (c :: cs)
      | none => none
    | none => none

def ofConst : Value → V
  | .agg l => match ofCellList l.toList with
    | some cs => .v (.agg cs)
    | none => .bad
  | v => match ofCell v with
    | some c => .v (.c c)
    | none => .bad

def gname (g : Nat) : Nat := 1000000 + g

def isGlob (n : Nat) : Bool := Nat.ble 1000000 n && Nat.blt n 2000000

/-- Names of blocks that come in. -/
def isParam (n : Nat) : Bool := Nat.ble 3000000 n && Nat.blt n 4000000

def isKept (n : Nat) : Bool := isGlob n || isParam n

def B.live : B → Bool
  | .free => false
  | _ => true

/-- Cells from one element to the next. -/
def B.step : B → Nat
  | .row _ u _ => u.n
  | .ro _ u _ => u.n
  | _ => 0

/-- Which of an element's cells are data. -/
def O.leafs : O → List Bool
  | .d u => List.replicate u.n true
  | .p a b => a.leafs ++ b.leafs
  | .s _ _ => [false]

def O.plain (o : O) (off n : Nat) : Bool := ((o.leafs.drop off).take n).all id && Nat.ble (off + n) o.leafs.length

def C.plain : C → Bool
  | .int .. | .bool _ | .str _ | .sl .. | .nils => true
  | _ => false

/-- One cell of an element set anew. -/
def setAt : (o : O) → El o.u → Nat → C → Option (El o.u)
  | .d u, x, off, c => bif Nat.blt off u.n && c.plain then datum (fun _ => .free) u ((toCells u x).set off c) else none
  | .p a b, x, off, c => bif Nat.blt off a.u.n then (match setAt a x.1 off c with | some y => some (y, x.2) | none => none) else (match setAt b x.2 (off - a.u.n) c with | some y => some (x.1, y) | none => none)
  | .s _ _, _, _, _ => none

def W1.cells : W1 → List C
  | .c x => [x]
  | .agg xs => xs

def setCell (o : O) (x : El o.u) (off : Nat) : List C → Option (El o.u)
  | [c] => setAt o x off c
  | _ => none

/-- A row's block: plain, or with rows of its own. -/
def rowOf (t : Nat) : (e : O) → List (El e.u) → B
  | .d u, l => .row t u l
  | e, l => .own t e l

/-- How many rows of its own an element has. -/
def O.rows : O → Nat
  | .d _ => 0
  | .p a b => a.rows + b.rows
  | .s _ _ => 1

/-- An element laid open: its cells, with names from k on for its rows. -/
def openC : (o : O) → El o.u → Nat → List C
  | .d u, x, _ => toCells u x
  | .p a b, x, k => openC a x.1 k ++ openC b x.2 (k + a.rows)
  | .s _ _, _, k => [.row k]

def openB : (o : O) → El o.u → Nat → (Nat → B) → Nat → B
  | .d _, _, _, h => h
  | .p a b, x, k, h => openB b x.2 (k + a.rows) (openB a x.1 k h)
  | .s t e, l, k, h => upd h k (rowOf t e l)

def freeN (h : Nat → B) (k : Nat) : Nat → Bool
  | 0 => true
  | m + 1 => (match h k, isKept k with | .free, false => true | _, _ => false) && freeN h (k + 1) m

/-- A row's content, of this shape. -/
def asRow (t : Nat) (e : O) : B → Option (List (El e.u))
  | .row t' u l => bif Nat.beq t' t then (if q : O.d u = e then some (q ▸ (l : List (El (O.d u).u))) else none) else none
  | .own t' o l => bif Nat.beq t' t then (if q : o = e then some (q ▸ l) else none) else none
  | _ => none

def B.isRow : B → Bool
  | .row .. => true
  | .own .. => true
  | _ => false

/-- Cells closed to an element; the names that it takes in. -/
def closeC (h : Nat → B) : (o : O) → List C → Option (El o.u × List C × List Nat)
  | .d u, cs => match datum h u (cs.take u.n), (rowsIn (cs.take u.n)).all (fun n => !(h n).isRow) with
    | some x, true => some (x, cs.drop u.n, [])
    | _, _ => none
  | .p a b, cs => match closeC h a cs with
    | some (x, r, ns) => match closeC h b r with
      | some (y, r, ms) => some ((x, y), r, ns ++ ms)
      | none => none
    | none => none
  | .s t e, cs => match cs with
    | .nils :: r => match Nat.blt 0 e.u.n with
      | true => some ([], r, [])
      | false => none
    | .row n :: r => match asRow t e (h n) with
      | some l => some (l, r, [n])
      | none => none
    | _ => none

def distinct : List Nat → Bool
  | [] => true
  | n :: r => !(r.any (Nat.beq n)) && distinct r

def goneL (h : Nat → B) : List Nat → Nat → B
  | [] => h
  | n :: r => goneL (upd h n .gone) r

/-- An open row closed, if that can be. -/
def closeN (h : Nat → B) (n : Nat) : Nat → B := match h n with
  | .opn t o l i cs => match closeC h o cs with
    | some (x, [], ns) => match distinct ns with
      | true => upd (goneL h ns) n (.own t o (l.set i x))
      | false => h
    | _ => h
  | _ => h

def closeL (h : Nat → B) : List Nat → Nat → B
  | [] => h
  | n :: r => closeL (closeN h n) r

/-- A literal's elements of this shape. -/
def ownList (h : Nat → B) (o : O) : Nat → List (Nat × V) → Option (List (El o.u) × List Nat)
  | _, [] => some ([], [])
  | i, (j, .v w) :: r => match Nat.beq j i, closeC h o w.cells with
    | true, some (x, [], ns) => match ownList h o (i + 1) r with
      | some (l, ms) => some (x :: l, ns ++ ms)
      | none => none
    | _, _ => none
  | _, _ => none

def opnd (st : St) : Operand → V
  | .tmp t => st.t t
  | .const v => ofConst v
  | .global g => match isGlob (gname g) && (st.h (gname g)).live with
    | true => .v (.c (.ptr (gname g) 0 (st.h (gname g)).step 0))
    | false => .bad
  | .func f => .v (.c (.fn f))

def V.cells : V → Option (List C)
  | .v w => some w.cells
  | _ => none

def V.one : V → Option C
  | .v (.c x) => some x
  | _ => none

def V.w1 : V → Option W1
  | .v w => some w
  | _ => none

def ones : List V → Option (List C)
  | [] => some []
  | .v (.c x) :: r => match ones r with
    | some cs => some (x :: cs)
    | none => none
  | _ :: _ => none

/-! ### Operations on values -/
section
variable {ρ : Type}

def getI {α : Type} (l : List α) (i : Int) : Option α := if 0 ≤ i then l[i.toNat]? else none

def intBin (op : BinOp) (k : IntKind) (x y : Int) (κ : C → Option ρ) : Option ρ :=
  match op with
  | .add => κ (.int k (k.wrap (x + y)))
  | .sub => κ (.int k (k.wrap (x - y)))
  | .mul => κ (.int k (k.wrap (x * y)))
  | .quo => bif decide (y = 0) then none else κ (.int k (k.wrap (x.tdiv y)))
  | .rem => bif decide (y = 0) then none else κ (.int k (x.tmod y))
  | .and => κ (.int k (k.wrap (BitVec.ofInt k.bits x &&& BitVec.ofInt k.bits y).toNat))
  | .or => κ (.int k (k.wrap (BitVec.ofInt k.bits x ||| BitVec.ofInt k.bits y).toNat))
  | .xor => κ (.int k (k.wrap (BitVec.ofInt k.bits x ^^^ BitVec.ofInt k.bits y).toNat))
  | .andNot => κ (.int k (k.wrap (BitVec.ofInt k.bits x &&& ~~~BitVec.ofInt k.bits y).toNat))
  | .eql => κ (.bool (x == y))
  | .neq => κ (.bool (x != y))
  | .lss => κ (.bool (decide (x < y)))
  | .leq => κ (.bool (decide (x ≤ y)))
  | .gtr => κ (.bool (decide (x > y)))
  | .geq => κ (.bool (decide (x ≥ y)))
  | .shl => bif decide (y < 0) then none else κ (.int k (k.wrap (x * 2 ^ (min y.toNat k.bits))))
  | .shr => bif decide (y < 0) then none else κ (.int k (x.fdiv (2 ^ (min y.toNat k.bits))))

def strBin (op : BinOp) (x y : ByteArray) (κ : C → Option ρ) : Option ρ :=
  match op with
  | .add => bif decide (((x.size + y.size : Nat) : Int) > 9223372036854775807) then none else κ (.str (x ++ y))
  | .eql => κ (.bool (x.toList == y.toList))
  | .neq => κ (.bool (!(x.toList == y.toList)))
  | .lss => κ (.bool (Op.bytesLess x.toList y.toList))
  | .leq => κ (.bool (Op.bytesLess x.toList y.toList || x.toList == y.toList))
  | .gtr => κ (.bool (!(Op.bytesLess x.toList y.toList || x.toList == y.toList)))
  | .geq => κ (.bool (!Op.bytesLess x.toList y.toList))
  | _ => none

def TI.agg (i : TI) : Bool := match i.k with
  | .struct _ | .arr .. => true
  | _ => false

def take? (off n : Nat) (cs : List C) : Option (List C) := bif Nat.ble (off + n) cs.length then some ((cs.drop off).take n) else none

def partW (tt : TT) (t : Nat) (cs : List C) (off : Nat) : Option W1 :=
  match assoc tt t with
  | some i => match i.agg, take? off i.size cs with
    | true, some cs => some (.agg cs)
    | false, some [c] => some (.c c)
    | _, _ => none
  | none => none

def eqFs (rec : Nat → W1 → W1 → Option Bool) (tt : TT) : List (Nat × Nat) → List C → List C → Option Bool
  | [], _, _ => some true
  | (off, t) :: r, xs, ys => match partW tt t xs off, partW tt t ys off with
    | some a, some b => match rec t a b, eqFs rec tt r xs ys with
      | some p, some q => some (p && q)
      | _, _ => none
    | _, _ => none

/-- Whether two values of a type are equal. -/
def eqT (tt : TT) : Nat → Nat → W1 → W1 → Option Bool
  | 0, _, _, _ => none
  | d + 1, t, x, y => match assoc tt t with
    | some i => match i.k, x, y with
      | .int _, .c (.int k a), .c (.int k' b) => if k = k' then some (a == b) else none
      | .bool, .c (.bool a), .c (.bool b) => some (a == b)
      | .str, .c (.str a), .c (.str b) => some (a.toList == b.toList)
      | .struct fs, .agg xs, .agg ys => bif i.eq then eqFs (eqT tt d) tt fs xs ys else none
      | _, _, _ => none
    | none => none

def isPtr (tt : TT) (t : Nat) : Bool := match assoc tt t with
  | some i => match i.k with
    | .ptr _ => true
    | _ => false
  | none => false

def nilness : C → Option Bool
  | .nilp => some true
  | .ptr .. => some false
  | .dptr .. => some false
  | _ => none

def isSl (tt : TT) (t : Nat) : Bool := match assoc tt t with
  | some i => match i.k with
    | .sl _ => true
    | _ => false
  | none => false

def slNil : C → Option Bool
  | .nils => some true
  | .slx .. => some false
  | _ => none

def bin (tt : TT) (t : Nat) (op : BinOp) (x y : V) (κ : C → Option ρ) : Option ρ :=
  match x, y with
  | .v (.c (.int k a)), .v (.c (.int k' b)) =>
    match op with
    | .shl => intBin .shl k a b κ
    | .shr => intBin .shr k a b κ
    | op => if k = k' then intBin op k a b κ else none
  | .v (.c (.str a)), .v (.c (.str b)) => strBin op a b κ
  | .v (.c c), .v (.c .nilp) => match op, isPtr tt t, nilness c with
    | .eql, true, some b => κ (.bool b)
    | .neq, true, some b => κ (.bool (!b))
    | _, _, _ => none
  | .v (.c c), .v (.c .nils) => match op, isSl tt t, slNil c with
    | .eql, true, some b => κ (.bool b)
    | .neq, true, some b => κ (.bool (!b))
    | _, _, _ => none
  | .v (.c (.bool a)), .v (.c (.bool b)) => match op, eqT tt 50 t (.c (.bool a)) (.c (.bool b)) with
    | .eql, some r => κ (.bool r)
    | .neq, some r => κ (.bool (!r))
    | _, _ => none
  | .v (.agg a), .v (.agg b) => match op, eqT tt 50 t (.agg a) (.agg b) with
    | .eql, some r => κ (.bool r)
    | .neq, some r => κ (.bool (!r))
    | _, _ => none
  | _, _ => none

def un (op : UnOp) (x : V) (κ : C → Option ρ) : Option ρ :=
  match op, x with
  | .neg, .v (.c (.int k n)) => κ (.int k (k.wrap (0 - n)))
  | .not, .v (.c (.bool b)) => κ (.bool (!b))
  | .xor, .v (.c (.int k n)) => κ (.int k (k.wrap (BitVec.ofInt k.bits (if k.signed then -1 else k.max) ^^^ BitVec.ofInt k.bits n).toNat))
  | _, _ => none

def asV (agg : Bool) (cs : List C) : Option V :=
  match agg, cs with
  | true, cs => some (.v (.agg cs))
  | false, [c] => some (.v (.c c))
  | _, _ => none

def splice (off : Nat) (new cs : List C) : Option (List C) := bif Nat.ble (off + new.length) cs.length then some (cs.take off ++ new ++ cs.drop (off + new.length)) else none

def load (st : St) (i : TI) (a : C) (κ : V → Option ρ) : Option ρ :=
  match a with
  | .ptr n j sz off => match st.h n with
    | .box _ cs => match j, take? off i.size cs with
      | 0, some cs => match asV i.agg cs with
        | some v => κ v
        | none => none
      | _, _ => none
    | .row _ u l => bif Nat.beq sz u.n then (l[j]?).bind fun x => match take? off i.size (toCells u x) with
        | some cs => match asV i.agg cs with
          | some v => κ v
          | none => none
        | none => none
      else none
    | .ro _ u l => bif Nat.beq sz u.n then (l[j]?).bind fun x => match take? off i.size (toCells u x) with
        | some cs => match asV i.agg cs with
          | some v => κ v
          | none => none
        | none => none
      else none
    | .own _ o l => bif Nat.beq sz o.u.n && o.plain off i.size then (l[j]?).bind fun x => match take? off i.size (toCells o.u x) with
        | some cs => match asV i.agg cs with
          | some v => κ v
          | none => none
        | none => none
      else none
    | .opn _ o _ k cs => bif Nat.beq sz o.u.n && Nat.beq j k then (match take? off i.size cs with
        | some cs => match asV i.agg cs with
          | some v => κ v
          | none => none
        | none => none)
      else none
    | _ => none
  | .dptr u x off => match take? off i.size (toCells u x) with
    | some cs => match asV i.agg cs with
      | some v => κ v
      | none => none
    | none => none
  | _ => none

def storeRow (st : St) (h : Nat → B) (sz off j n : Nat) (new : List C) (κ : St → Option ρ) : Option ρ :=
  match h n with
  | .row e u l => bif Nat.beq sz u.n then (l[j]?).bind fun x => match splice off new (toCells u x) with
      | some cs => match datum h u cs with
        | some x => κ { st with h := upd h n (.row e u (l.set j x)) }
        | none => none
      | none => none
    else none
  | _ => none

def store (wh : Bool) (st : St) (i : TI) (a : C) (v : V) (κ : St → Option ρ) : Option ρ :=
  match v.cells with
  | none => none
  | some new => bif Nat.beq new.length i.size then
    match a with
    | .ptr n j sz off => match st.h n with
      | .box t cs => match j, splice off new cs with
        | 0, some cs => κ { st with h := upd st.h n (.box t cs) }
        | _, _ => none
      | .row .. => storeRow st (freezeAll st.h (rowsIn new)) sz off j n new κ
      | .own e o l => match Nat.beq sz o.u.n with
        | true => (l[j]?).bind fun x => match setCell o x off new with
          | some y => κ { st with h := upd st.h n (.own e o (l.set j y)) }
          | none => bif wh && Nat.beq off 0 && Nat.beq new.length o.u.n then κ { st with h := closeN (upd st.h n (.opn e o l j new)) n } else none
        | false => none
      | .opn e o l k cs => bif Nat.beq sz o.u.n && Nat.beq j k then (match splice off new cs with
          | some cs => κ { st with h := upd st.h n (.opn e o l k cs) }
          | none => none)
        else none
      | _ => none
    | _ => none
    else none

/-- A load that lays an element open. -/
def openLoad (st : St) (i : TI) (a : C) (d : Nat) (κ : V → St → Option ρ) : Option ρ :=
  match a with
  | .ptr n j sz off => match st.h n with
    | .own t o l => match Nat.beq sz o.u.n && Nat.ble o.rows 100, freeN st.h (2000000 + d * 100) o.rows with
      | true, true => (l[j]?).bind fun x => match take? off i.size (openC o x (2000000 + d * 100)) with
        | some cs => match asV i.agg cs with
          | some v => κ v { st with h := openB o x (2000000 + d * 100) (upd st.h n (.opn t o l j (openC o x (2000000 + d * 100)))) }
          | none => none
        | none => none
      | _, _ => none
    | _ => load st i a fun v => κ v st
  | _ => load st i a fun v => κ v st

/-- The elements of a literal. -/
def putParts {u : U} (h : Nat → B) : List (Nat × V) → List (El u) → Option (List (El u))
  | [], l => some l
  | (i, v) :: r, l => match v.cells with
    | some cs => match datum h u cs with
      | some x => bif Nat.blt i l.length then putParts h r (l.set i x) else none
      | none => none
    | none => none

def rowsInAll : List (Nat × V) → List Nat
  | [] => []
  | (_, .v w) :: r => rowsIn w.cells ++ rowsInAll r
  | _ :: r => rowsInAll r

def fillParts (fs : List (Nat × Nat)) (size : Nat → Option Nat) : List (Nat × V) → List C → Option (List C)
  | [], cs => some cs
  | (i, v) :: r, cs => match fs[i]?, v.cells with
    | some (off, t), some new => match size t with
      | some s => bif Nat.beq new.length s then (match splice off new cs with | some cs => fillParts fs size r cs | none => none) else none
      | none => none
    | _, _ => none

def newBlock (st : St) (n : Nat) (b : B) (κ : St → Option ρ) : Option ρ :=
  match st.h n, isKept n with
  | .free, false => κ { st with h := upd st.h n b }
  | _, _ => none

def newRow (st : St) (n e : Nat) (u : U) (l : List (El u)) (κ : St → Option ρ) : Option ρ :=
  match Nat.blt 0 u.n with
  | true => newBlock st n (.row e u l) κ
  | false => none

/-- What may be appended: its content as data. -/
def news (h : Nat → B) (u : U) : C → Option (List (El u))
  | .row n => match h n with
    | .own .. => none
    | _ => dataSl h u (.row n)
  | c => dataSl h u c

def roomy : Nat := 140737488351232

/-- A row with rows of its own is made. -/
def newOwn (st : St) (n e : Nat) (o : O) (l : List (El o.u)) (κ : St → Option ρ) : Option ρ :=
  match Nat.blt 0 o.u.n with
  | true => newBlock st n (.own e o l) κ
  | false => none

/-- What is appended, as elements of this shape; the names that it takes in. -/
def ownNews (h : Nat → B) (e : Nat) (o : O) : C → Option (List (El o.u) × List Nat)
  | .nils => some ([], [])
  | .row m => match h m with
    | .own t o' l => bif Nat.beq t e then (if q : o' = o then some (q ▸ l, [m]) else none) else none
    | _ => none
  | _ => none

def appendOwn (st : St) (dst : Nat) (e : Nat) (o : O) (ie : TI) (s x : C) (κ : V → St → Option ρ) : Option ρ :=
  match ownNews st.h e o s, ownNews st.h e o x with
  | some (l, ns), some (l2, ms) => match distinct (ns ++ ms), (if o.u = ie.u then true else false) with
    | true, true => bif decide ((l.length + l2.length) * ie.bytes ≤ roomy) then newOwn { st with h := goneL st.h (ns ++ ms) } dst e o (l ++ l2) (κ (.v (.c (.row dst)))) else none
    | _, _ => none
  | _, _ => none

def append (st : St) (dst : Nat) (e : Nat) (ie : TI) (s x : C) (κ : V → St → Option ρ) : Option ρ :=
  match s with
  | .nils => match news st.h ie.u x with
    | some l2 => bif decide (l2.length * ie.bytes ≤ roomy) then newRow st dst e ie.u l2 (κ (.v (.c (.row dst)))) else none
    | none => none
  | .row n => match st.h n with
    | .row e' u l => match Nat.beq e' e, (if u = ie.u then true else false) with
      | true, true => match news st.h u x with
        | some l2 => bif decide ((l.length + l2.length) * ie.bytes ≤ roomy) then newRow { st with h := upd st.h n .gone } dst e u (l ++ l2) (κ (.v (.c (.row dst)))) else none
        | none => none
      | _, _ => none
    | _ => none
  | _ => none

/-! ### Maps -/
/-- How keys of a type are held against each other. -/
def keyEq (tt : TT) (k : Nat) : (u : U) → Option (El u → El u → Bool)
  | .int k' => match assoc tt k with
    | some i => match i.k with
      | .int k'' => if k'' = k' then some fun a b => a == b else none
      | _ => none
    | none => none
  | _ => none

def mapGet {α β : Type} (eq : α → α → Bool) (k : α) : List (α × β) → Option β
  | [] => none
  | p :: r => bif eq k p.1 then some p.2 else mapGet eq k r

def mapPut {α β : Type} (eq : α → α → Bool) (k : α) (v : β) : List (α × β) → List (α × β)
  | [] => [(k, v)]
  | p :: r => bif eq k p.1 then (k, v) :: r else p :: mapPut eq k v r

/-- Where a key lies (or would lie). -/
def mapIdx {α β : Type} (eq : α → α → Bool) (k : α) : List (α × β) → Nat
  | [] => 0
  | p :: r => bif eq k p.1 then 0 else mapIdx eq k r + 1

/-- A key's entry is there. -/
def mapEnt {α β : Type} (eq : α → α → Bool) (k : α) (z : β) : List (α × β) → List (α × β)
  | [] => [(k, z)]
  | p :: r => bif eq k p.1 then (k, p.2) :: r else p :: mapEnt eq k z r

def sameB : Bool → Bool → Bool
  | true, b => b
  | false, b => !b

def W1.isAgg : W1 → Bool
  | .agg _ => true
  | .c _ => false

/-- A value as data. -/
def datumW (a : Bool) (u : U) : V → Option (El u)
  | .v w => match sameB w.isAgg a && w.cells.all C.plain with
    | true => datum (fun _ => .free) u w.cells
    | false => none
  | _ => none

def lookupV (ok : Bool) (w : W1) (b : Bool) : V := match ok with
  | true => .tup [w, .c (.bool b)]
  | false => .v w

def lookupW (st : St) (ik ie : TI) (zero : Option (El ie.u)) (eq : Option (El ik.u → El ik.u → Bool)) (t : Nat) (x key : V) (ok : Bool) (κ : V → Option ρ) : Option ρ :=
  match zero, eq, datumW ik.agg ik.u key with
  | some z, some eq, some k =>
    let go : Option (El ie.u) → Option ρ := fun r => match asV ie.agg (toCells ie.u (r.getD z)) with
      | some (.v w) => κ (lookupV ok w r.isSome)
      | _ => none
    match x with
    | .v (.c .nilm) => go none
    | .v (.c (.mapr _ n)) => match st.h n with
      | .mp t' ka va ku vu l => match Nat.beq t' t && sameB ka ik.agg && sameB va ie.agg with
        | true => if h : ku = ik.u ∧ vu = ie.u then go (mapGet eq k (h.1 ▸ h.2 ▸ l)) else none
        | false => none
      | _ => none
    | _ => none
  | _, _, _ => none

def updateW (st : St) (ik ie : TI) (eq : Option (El ik.u → El ik.u → Bool)) (t : Nat) (x key val : V) (κ : St → Option ρ) : Option ρ :=
  match eq, datumW ik.agg ik.u key, datumW ie.agg ie.u val with
  | some eq, some k, some v => match x with
    | .v (.c (.mapr b n)) => bif b then none else match st.h n with
      | .mp t' ka va ku vu l => match Nat.beq t' t && sameB ka ik.agg && sameB va ie.agg with
        | true => if h : ku = ik.u ∧ vu = ie.u then κ { st with h := upd st.h n (.mp t' ka va ik.u ie.u (mapPut eq k v (h.1 ▸ h.2 ▸ l))) } else none
        | false => none
      | _ => none
    | _ => none
  | _, _, _ => none

def entryW (st : St) (ik ie : TI) (zero : Option (El ie.u)) (eq : Option (El ik.u → El ik.u → Bool)) (t : Nat) (x key : V) (κ : V → St → Option ρ) : Option ρ :=
  match zero, eq, datumW ik.agg ik.u key with
  | some z, some eq, some k => match x with
    | .v (.c (.mapr b n)) => bif b then none else match st.h n with
      | .mp t' ka va ku vu l => match Nat.beq t' t && sameB ka ik.agg && sameB va ie.agg with
        | true => if h : ku = ik.u ∧ vu = ie.u then (match asV ie.agg (toCells ie.u ((mapGet eq k (h.1 ▸ h.2 ▸ l)).getD z)) with
          | some (.v w) => κ (.tup [w, .c (.int .i64 (mapIdx eq k (h.1 ▸ h.2 ▸ l : List (El ik.u × El ie.u)) : Int))]) { st with h := upd st.h n (.mp t' ka va ik.u ie.u (mapEnt eq k z (h.1 ▸ h.2 ▸ l))) }
          | _ => none) else none
        | false => none
      | _ => none
    | _ => none
  | _, _, _ => none

def entrySetW (st : St) (ie : TI) (t : Nat) (x stamp val : V) (κ : St → Option ρ) : Option ρ :=
  match x, stamp, datumW ie.agg ie.u val with
  | .v (.c (.mapr b n)), .v (.c (.int _ j)), some v => bif b then none else match st.h n with
    | .mp t' ka va ku vu l => match Nat.beq t' t && sameB va ie.agg with
      | true => if h : vu = ie.u then (getI l j).bind fun p => κ { st with h := upd st.h n (.mp t' ka va ku ie.u ((h ▸ l : List (El ku × El ie.u)).set j.toNat (p.1, v))) } else none
      | false => none
    | _ => none
  | _, _, _ => none

end
end Go.Proofs.YtkimeoknckohfaaDoor.R1
