/- An abstract run of the translation's code over plain data: slices as lists, variables in memory as boxes. This text holds definitions alone. -/
import Derived.Calls
namespace Go.Proofs.Ytcijmfodhdigpaa.R1

/-! ### Data -/
inductive U where
  | int (k : IntKind) | bool | str | unit | pair (a b : U) | sl (e : U)
  deriving DecidableEq, Inhabited

@[reducible] def El : U → Type
  | .int _ => Int
  | .bool => Bool
  | .str => ByteArray
  | .unit => Unit
  | .pair a b => El a × El b
  | .sl e => List (El e)

def U.n : U → Nat
  | .unit => 0
  | .pair a b => a.n + b.n
  | _ => 1

/-- A cell's content. -/
inductive C where
  | int (k : IntKind) (n : Int)
  | bool (b : Bool)
  | str (s : ByteArray)
  | sl (u : U) (l : List (El u))
  | nils
  | slx (u : U) (l : List (El u))
  | row (n : Nat)
  | tail (n i sz : Nat)
  | ptr (n i sz off : Nat)
  | dptr (u : U) (x : El u) (off : Nat)
  | nilp
  | nilf
  | fn (f : Nat)
  | cap (g c : C)

inductive W1 where
  | c (x : C)
  | agg (xs : List C)

inductive V where
  | bad
  | und
  | v (x : W1)
  | tup (xs : List W1)

/-- A block: a row that may be written, one that may not, a variable in memory. -/
inductive B where
  | free
  | gone
  | row (e : Nat) (u : U) (l : List (El u))
  | ro (e : Nat) (u : U) (l : List (El u))
  | box (t : Nat) (cs : List C)

structure St where
  t : Nat → V
  h : Nat → B

def upd {α : Type} (f : Nat → α) (i : Nat) (x : α) : Nat → α := fun j => bif Nat.beq j i then x else f j

/-! ### Types -/
inductive TK where
  | int (k : IntKind) | bool | str
  | struct (fs : List (Nat × Nat))
  | arr (n e : Nat)
  | sl (e : Nat)
  | ptr (e : Nat)
  | func
  | other

def C.weak : C → C
  | .slx u l => .sl u l
  | c => c

structure TI where
  k : TK
  size : Nat
  bytes : Nat
  zero : List C
  u : U        -- of what is data
  eq : Bool := false   -- a struct whose values may be compared field by field

abbrev TT := List (Nat × TI)

def assoc.{u} {α : Type u} : List (Nat × α) → Nat → Option α
  | [], _ => none
  | (i, x) :: r, j => bif Nat.beq i j then some x else assoc r j

/-! ### Cells of data -/
def toCells : (u : U) → El u → List C
  | .int k, n => [.int k n]
  | .bool, b => [.bool b]
  | .str, s => [.str s]
  | .unit, _ => []
  | .pair a b, x => toCells a x.1 ++ toCells b x.2
  | .sl e, l => [.sl e l]

/-- A slice's content as data. -/
def dataSl (h : Nat → B) (u : U) : C → Option (List (El u))
  | .sl u' l => if e : u' = u then some (e ▸ l) else none
  | .slx u' l => if e : u' = u then some (e ▸ l) else none
  | .nils => some []
  | .row n => match h n with
    | .row _ u' l => if e : u' = u then some (e ▸ l) else none
    | .ro _ u' l => if e : u' = u then some (e ▸ l) else none
    | _ => none
  | _ => none

def ofCells (h : Nat → B) : (u : U) → List C → Option (El u × List C)
  | .int k => fun cs => match cs with
    | .int k' n :: r => if k' = k then some (n, r) else none
    | _ => none
  | .bool => fun cs => match cs with
    | .bool b :: r => some (b, r)
    | _ => none
  | .str => fun cs => match cs with
    | .str s :: r => some (s, r)
    | _ => none
  | .unit => fun cs => some ((), cs)
  | .pair a b => fun cs => match ofCells h a cs with
    | some (x, r) => match ofCells h b r with
      | some (y, r) => some ((x, y), r)
      | none => none
    | none => none
  | .sl e => fun cs => match cs with
    | c :: r => match dataSl h e c with
      | some l => some (l, r)
      | none => none
    | [] => none

/-- The names of rows in cells. -/
def rowsIn : List C → List Nat
  | [] => []
  | .row n :: r => n :: rowsIn r
  | _ :: r => rowsIn r

def B.freeze : B → B
  | .row e u l => .ro e u l
  | .box .. => .gone
  | b => b

def freezeAll (h : Nat → B) : List Nat → Nat → B
  | [] => h
  | n :: r => freezeAll (upd h n (h n).freeze) r

def datum (h : Nat → B) (u : U) (cs : List C) : Option (El u) :=
  match ofCells h u cs with
  | some (x, []) => some x
  | _ => none

/-- Elements one after the other. -/
def dataList (h : Nat → B) (u : U) : Nat → List C → Option (List (El u))
  | 0, cs => match cs with
    | [] => some []
    | _ :: _ => none
  | n + 1, cs => match ofCells h u cs with
    | some (x, r) => match dataList h u n r with
      | some l => some (x :: l)
      | none => none
    | none => none

/-! ### Operands -/
def ofCell : Value → Option C
  | .int k n => some (.int k n)
  | .bool b => some (.bool b)
  | .string s => some (.str s)
  | .slice a n c => match a, n, c with
    | none, 0, 0 => some .nils
    | _, _, _ => none
  | .pointer a => match a with
    | none => some .nilp
    | some _ => none
  | .nilFunc => some .nilf
  | .func g x y => match g, x.toList, y.toList with
    | .func f, [], [] => some (.fn f)
    | _, _, _ => none
  | _ => none

def ofCellList : List Value → Option (List C)
  | [] => some []
  | v :: r => match ofCell v with
    | some c => match ofCellList r with
      | some cs => some (c :: cs)
      | none => none
    | none => none

def ofConst : Value → V
  | .agg l => match ofCellList l.toList with
    | some cs => .v (.agg cs)
    | none => .bad
  | v => match ofCell v with
    | some c => .v (.c c)
    | none => .bad

def gname (g : Nat) : Nat := 1000000 + g

def isGlob (n : Nat) : Bool := Nat.ble 1000000 n && Nat.blt n 2000000

/-- Names of blocks that come in. -/
def isParam (n : Nat) : Bool := Nat.ble 3000000 n && Nat.blt n 4000000

def isKept (n : Nat) : Bool := isGlob n || isParam n

def B.live : B → Bool
  | .free => false
  | _ => true

def opnd (st : St) : Operand → V
  | .tmp t => st.t t
  | .const v => ofConst v
  | .global g => match isGlob (gname g) && (st.h (gname g)).live with
    | true => .v (.c (.ptr (gname g) 0 0 0))
    | false => .bad
  | .func f => .v (.c (.fn f))

def W1.cells : W1 → List C
  | .c x => [x]
  | .agg xs => xs

def V.cells : V → Option (List C)
  | .v w => some w.cells
  | _ => none

def V.one : V → Option C
  | .v (.c x) => some x
  | _ => none

def V.w1 : V → Option W1
  | .v w => some w
  | _ => none

def ones : List V → Option (List C)
  | [] => some []
  | .v (.c x) :: r => match ones r with
    | some cs => some (x :: cs)
    | none => none
  | _ :: _ => none

/-! ### Operations on values -/
section
variable {ρ : Type}

def getI {α : Type} (l : List α) (i : Int) : Option α := if 0 ≤ i then l[i.toNat]? else none

def intBin (op : BinOp) (k : IntKind) (x y : Int) (κ : C → Option ρ) : Option ρ :=
  match op with
  | .add => κ (.int k (k.wrap (x + y)))
  | .sub => κ (.int k (k.wrap (x - y)))
  | .mul => κ (.int k (k.wrap (x * y)))
  | .quo => bif decide (y = 0) then none else κ (.int k (k.wrap (x.tdiv y)))
  | .rem => bif decide (y = 0) then none else κ (.int k (x.tmod y))
  | .and => κ (.int k (k.wrap (BitVec.ofInt k.bits x &&& BitVec.ofInt k.bits y).toNat))
  | .or => κ (.int k (k.wrap (BitVec.ofInt k.bits x ||| BitVec.ofInt k.bits y).toNat))
  | .xor => κ (.int k (k.wrap (BitVec.ofInt k.bits x ^^^ BitVec.ofInt k.bits y).toNat))
  | .andNot => κ (.int k (k.wrap (BitVec.ofInt k.bits x &&& ~~~BitVec.ofInt k.bits y).toNat))
  | .eql => κ (.bool (x == y))
  | .neq => κ (.bool (x != y))
  | .lss => κ (.bool (decide (x < y)))
  | .leq => κ (.bool (decide (x ≤ y)))
  | .gtr => κ (.bool (decide (x > y)))
  | .geq => κ (.bool (decide (x ≥ y)))
  | .shl => bif decide (y < 0) then none else κ (.int k (k.wrap (x * 2 ^ (min y.toNat k.bits))))
  | .shr => bif decide (y < 0) then none else κ (.int k (x.fdiv (2 ^ (min y.toNat k.bits))))

def strBin (op : BinOp) (x y : ByteArray) (κ : C → Option ρ) : Option ρ :=
  match op with
  | .add => bif decide (((x.size + y.size : Nat) : Int) > 9223372036854775807) then none else κ (.str (x ++ y))
  | .eql => κ (.bool (x.toList == y.toList))
  | .neq => κ (.bool (!(x.toList == y.toList)))
  | .lss => κ (.bool (Op.bytesLess x.toList y.toList))
  | .leq => κ (.bool (Op.bytesLess x.toList y.toList || x.toList == y.toList))
  | .gtr => κ (.bool (!(Op.bytesLess x.toList y.toList || x.toList == y.toList)))
  | .geq => κ (.bool (!Op.bytesLess x.toList y.toList))
  | _ => none

def TI.agg (i : TI) : Bool := match i.k with
  | .struct _ | .arr .. => true
  | _ => false

def take? (off n : Nat) (cs : List C) : Option (List C) := bif Nat.ble (off + n) cs.length then some ((cs.drop off).take n) else none

def partW (tt : TT) (t : Nat) (cs : List C) (off : Nat) : Option W1 :=
  match assoc tt t with
  | some i => match i.agg, take? off i.size cs with
    | true, some cs => some (.agg cs)
    | false, some [c] => some (.c c)
    | _, _ => none
  | none => none

def eqFs (rec : Nat → W1 → W1 → Option Bool) (tt : TT) : List (Nat × Nat) → List C → List C → Option Bool
  | [], _, _ => some true
  | (off, t) :: r, xs, ys => match partW tt t xs off, partW tt t ys off with
    | some a, some b => match rec t a b, eqFs rec tt r xs ys with
      | some p, some q => some (p && q)
      | _, _ => none
    | _, _ => none

/-- Whether two values of a type are equal. -/
def eqT (tt : TT) : Nat → Nat → W1 → W1 → Option Bool
  | 0, _, _, _ => none
  | d + 1, t, x, y => match assoc tt t with
    | some i => match i.k, x, y with
      | .int _, .c (.int k a), .c (.int k' b) => if k = k' then some (a == b) else none
      | .bool, .c (.bool a), .c (.bool b) => some (a == b)
      | .str, .c (.str a), .c (.str b) => some (a.toList == b.toList)
      | .struct fs, .agg xs, .agg ys => bif i.eq then eqFs (eqT tt d) tt fs xs ys else none
      | _, _, _ => none
    | none => none

def isPtr (tt : TT) (t : Nat) : Bool := match assoc tt t with
  | some i => match i.k with
    | .ptr _ => true
    | _ => false
  | none => false

def nilness : C → Option Bool
  | .nilp => some true
  | .ptr .. => some false
  | .dptr .. => some false
  | _ => none

def isSl (tt : TT) (t : Nat) : Bool := match assoc tt t with
  | some i => match i.k with
    | .sl _ => true
    | _ => false
  | none => false

def slNil : C → Option Bool
  | .nils => some true
  | .slx .. => some false
  | _ => none

def bin (tt : TT) (t : Nat) (op : BinOp) (x y : V) (κ : C → Option ρ) : Option ρ :=
  match x, y with
  | .v (.c (.int k a)), .v (.c (.int k' b)) =>
    match op with
    | .shl => intBin .shl k a b κ
    | .shr => intBin .shr k a b κ
    | op => if k = k' then intBin op k a b κ else none
  | .v (.c (.str a)), .v (.c (.str b)) => strBin op a b κ
  | .v (.c c), .v (.c .nilp) => match op, isPtr tt t, nilness c with
    | .eql, true, some b => κ (.bool b)
    | .neq, true, some b => κ (.bool (!b))
    | _, _, _ => none
  | .v (.c c), .v (.c .nils) => match op, isSl tt t, slNil c with
    | .eql, true, some b => κ (.bool b)
    | .neq, true, some b => κ (.bool (!b))
    | _, _, _ => none
  | .v (.c (.bool a)), .v (.c (.bool b)) => match op, eqT tt 50 t (.c (.bool a)) (.c (.bool b)) with
    | .eql, some r => κ (.bool r)
    | .neq, some r => κ (.bool (!r))
    | _, _ => none
  | .v (.agg a), .v (.agg b) => match op, eqT tt 50 t (.agg a) (.agg b) with
    | .eql, some r => κ (.bool r)
    | .neq, some r => κ (.bool (!r))
    | _, _ => none
  | _, _ => none

def un (op : UnOp) (x : V) (κ : C → Option ρ) : Option ρ :=
  match op, x with
  | .neg, .v (.c (.int k n)) => κ (.int k (k.wrap (0 - n)))
  | .not, .v (.c (.bool b)) => κ (.bool (!b))
  | .xor, .v (.c (.int k n)) => κ (.int k (k.wrap (BitVec.ofInt k.bits (if k.signed then -1 else k.max) ^^^ BitVec.ofInt k.bits n).toNat))
  | _, _ => none

def asV (agg : Bool) (cs : List C) : Option V :=
  match agg, cs with
  | true, cs => some (.v (.agg cs))
  | false, [c] => some (.v (.c c))
  | _, _ => none

def splice (off : Nat) (new cs : List C) : Option (List C) := bif Nat.ble (off + new.length) cs.length then some (cs.take off ++ new ++ cs.drop (off + new.length)) else none

def load (st : St) (i : TI) (a : C) (κ : V → Option ρ) : Option ρ :=
  match a with
  | .ptr n j sz off => match st.h n with
    | .box _ cs => match j, take? off i.size cs with
      | 0, some cs => match asV i.agg cs with
        | some v => κ v
        | none => none
      | _, _ => none
    | .row _ u l => bif Nat.beq sz u.n then (l[j]?).bind fun x => match take? off i.size (toCells u x) with
        | some cs => match asV i.agg cs with
          | some v => κ v
          | none => none
        | none => none
      else none
    | .ro _ u l => bif Nat.beq sz u.n then (l[j]?).bind fun x => match take? off i.size (toCells u x) with
        | some cs => match asV i.agg cs with
          | some v => κ v
          | none => none
        | none => none
      else none
    | _ => none
  | .dptr u x off => match take? off i.size (toCells u x) with
    | some cs => match asV i.agg cs with
      | some v => κ v
      | none => none
    | none => none
  | _ => none

def storeRow (st : St) (h : Nat → B) (sz off j n : Nat) (new : List C) (κ : St → Option ρ) : Option ρ :=
  match h n with
  | .row e u l => bif Nat.beq sz u.n then (l[j]?).bind fun x => match splice off new (toCells u x) with
      | some cs => match datum h u cs with
        | some x => κ { st with h := upd h n (.row e u (l.set j x)) }
        | none => none
      | none => none
    else none
  | _ => none

def store (st : St) (i : TI) (a : C) (v : V) (κ : St → Option ρ) : Option ρ :=
  match v.cells with
  | none => none
  | some new => bif Nat.beq new.length i.size then
    match a with
    | .ptr n j sz off => match st.h n with
      | .box t cs => match j, splice off new cs with
        | 0, some cs => κ { st with h := upd st.h n (.box t cs) }
        | _, _ => none
      | .row .. => storeRow st (freezeAll st.h (rowsIn new)) sz off j n new κ
      | _ => none
    | _ => none
    else none

/-- The elements of a literal. -/
def putParts {u : U} (h : Nat → B) : List (Nat × V) → List (El u) → Option (List (El u))
  | [], l => some l
  | (i, v) :: r, l => match v.cells with
    | some cs => match datum h u cs with
      | some x => bif Nat.blt i l.length then putParts h r (l.set i x) else none
      | none => none
    | none => none

def rowsInAll : List (Nat × V) → List Nat
  | [] => []
  | (_, .v w) :: r => rowsIn w.cells ++ rowsInAll r
  | _ :: r => rowsInAll r

def fillParts (fs : List (Nat × Nat)) (size : Nat → Option Nat) : List (Nat × V) → List C → Option (List C)
  | [], cs => some cs
  | (i, v) :: r, cs => match fs[i]?, v.cells with
    | some (off, t), some new => match size t with
      | some s => bif Nat.beq new.length s then (match splice off new cs with | some cs => fillParts fs size r cs | none => none) else none
      | none => none
    | _, _ => none

def newBlock (st : St) (n : Nat) (b : B) (κ : St → Option ρ) : Option ρ :=
  match st.h n, isKept n with
  | .free, false => κ { st with h := upd st.h n b }
  | _, _ => none

def newRow (st : St) (n e : Nat) (u : U) (l : List (El u)) (κ : St → Option ρ) : Option ρ :=
  match Nat.blt 0 u.n with
  | true => newBlock st n (.row e u l) κ
  | false => none

/-- What may be appended: its content as data. -/
def news (h : Nat → B) (u : U) : C → Option (List (El u)) := dataSl h u

def roomy : Nat := 140737488351232

def append (st : St) (dst : Nat) (e : Nat) (ie : TI) (s x : C) (κ : V → St → Option ρ) : Option ρ :=
  match s with
  | .nils => match dataSl st.h ie.u x with
    | some l2 => bif decide (l2.length * ie.bytes ≤ roomy) then newRow st dst e ie.u l2 (κ (.v (.c (.row dst)))) else none
    | none => none
  | .row n => match st.h n with
    | .row e' u l => match Nat.beq e' e, (if u = ie.u then true else false) with
      | true, true => match dataSl st.h u x with
        | some l2 => bif decide ((l.length + l2.length) * ie.bytes ≤ roomy) then newRow { st with h := upd st.h n .gone } dst e u (l ++ l2) (κ (.v (.c (.row dst)))) else none
        | none => none
      | _, _ => none
    | _ => none
  | _ => none

end
end Go.Proofs.Ytcijmfodhdigpaa.R1
