/- Part 0: An abstract run of the translation's code over plain data: slices as lists, variables in memory as boxes -/
import Derived.Calls
import Derived.Orders
import Derived.Maps.AppendAt
import Derived.Laws.OwnMore
import Derived.Laws.MakeOwn
import Derived.Below
import Derived.Laws.Tables
import Derived.Great.BuildSlice
set_option linter.unusedVariables false
namespace Go.Proofs.YtlkkaielmdlefaaGreatDoor
theorem aA {n j:Nat}(h:n+1≤j):∃m,j=m+1:=⟨j-1,by omega⟩
theorem aa {α β}(a:α)(f:α->Option β):(some a).bind f=f a:=rfl
theorem ai :type_of% @decide_eq_true:= @decide_eq_true
theorem al :type_of% @decide_eq_false:= @decide_eq_false
theorem ab {α:Sort _}(a b:α):(bif true then a else b)=a:=rfl
theorem ax {α}{a:α}{l:List α}:(a::l).length=l.length+1:=rfl
theorem ac {α:Sort _}(a b:α):(bif false then a else b)=b:=rfl
theorem aC :type_of% @List.mem_append:= @List.mem_append
theorem aR :type_of% @Nat.eq_of_beq_eq_true:= @Nat.eq_of_beq_eq_true
theorem aH :type_of% @Bool.and_eq_true:= @Bool.and_eq_true
theorem bk :type_of% @List.mem_cons_of_mem:= @List.mem_cons_of_mem
theorem aL :type_of% @List.getElem?_eq_getElem:= @List.getElem?_eq_getElem
theorem aX :type_of% @List.mem_of_getElem? := @List.mem_of_getElem?
theorem aG :type_of% @List.mem_cons:= @List.mem_cons
theorem aV :type_of% @List.length_append:= @List.length_append
theorem bR :type_of% @Option.bind_eq_some_iff:= @Option.bind_eq_some_iff
theorem bG :type_of% @List.mem_singleton:= @List.mem_singleton
theorem ae :type_of% @if_neg:= @if_neg
theorem bo :type_of% @beq_false_of_ne:= @beq_false_of_ne
theorem ah :type_of% @if_pos:= @if_pos
theorem br {α}:([]:List α).length=0:=rfl
theorem aM :type_of% @Nat.le_refl:= @Nat.le_refl
theorem bL :type_of% @List.append_assoc:= @List.append_assoc
theorem bQ :type_of% @List.mem_cons_self:= @List.mem_cons_self
theorem bj :type_of% @Bool.true_and:= @Bool.true_and
theorem bK (n:Nat):(n:Int).toNat=n:=rfl
theorem bi :type_of% @Bool.not_true:= @Bool.not_true
theorem bT :type_of% @decide_eq_true_eq:= @decide_eq_true_eq
theorem cX {α}{xs:Array α}:xs.toList.length=xs.size:=rfl
theorem cQ :type_of% @List.nodup_append:= @List.nodup_append
theorem dU :type_of% @Array.getElem?_eq_some_iff:= @Array.getElem?_eq_some_iff
theorem da :type_of% @List.length_take:= @List.length_take
theorem db :type_of% @List.eq_nil_of_length_eq_zero:= @List.eq_nil_of_length_eq_zero
theorem gq :type_of% @List.getElem?_eq_some_iff:= @List.getElem?_eq_some_iff
theorem dj :type_of% @List.all_eq_true:= @List.all_eq_true
theorem gI :type_of% @List.getElem?_append_left:= @List.getElem?_append_left
theorem eU :type_of% @List.length_reverse:= @List.length_reverse
theorem cR :type_of% @List.map_cons:= @List.map_cons
theorem bX :type_of% @beq_iff_eq:= @beq_iff_eq
theorem dJ :type_of% @List.length_map:= @List.length_map
theorem dV :type_of% @beq_self_eq_true:= @beq_self_eq_true
theorem gJ :type_of% @List.take_append_drop:= @List.take_append_drop
theorem dK :type_of% @Bool.not_false:= @Bool.not_false
theorem eB :type_of% @Bool.or_eq_true:= @Bool.or_eq_true
theorem eV :type_of% @List.length_drop:= @List.length_drop
theorem dc :type_of% @Nat.zero_add:= @Nat.zero_add
theorem eO :type_of% @List.append_nil:= @List.append_nil
theorem jJ :type_of% @List.getElem?_append_right:= @List.getElem?_append_right
theorem dk :type_of% @Option.some.inj:= @Option.some.inj
theorem dy :type_of% @Nat.lt_or_ge:= @Nat.lt_or_ge
theorem iE :type_of% @List.getElem?_eq_none:= @List.getElem?_eq_none
theorem fC :type_of% @List.nodup_cons:= @List.nodup_cons
theorem dL :type_of% @Bool.and_self:= @Bool.and_self
theorem ch :type_of% @List.length_set:= @List.length_set
theorem eW :type_of% @Int.mul_assoc:= @Int.mul_assoc
theorem gu :type_of% @List.map_append:= @List.map_append
theorem nr :type_of% @List.getD_eq_getElem?_getD:= @List.getD_eq_getElem?_getD
theorem lA :type_of% @List.length_eq_zero_iff:= @List.length_eq_zero_iff
theorem eY :type_of% @of_decide_eq_true:= @of_decide_eq_true
theorem iF :type_of% @List.getElem?_map:= @List.getElem?_map
theorem eZ :type_of% @List.mem_map:= @List.mem_map
theorem eC :type_of% @Nat.zero_le:= @Nat.zero_le
theorem jg :type_of% @Bool.false_eq_true:= @Bool.false_eq_true
theorem dM :type_of% @Nat.blt_eq:= @Nat.blt_eq
theorem jK :type_of% @beq_eq_false_iff_ne:= @beq_eq_false_iff_ne
theorem gK :type_of% @Int.mul_nonneg:= @Int.mul_nonneg
theorem gL :type_of% @Int.mul_le_mul:= @Int.mul_le_mul
theorem jh :type_of% @Option.some.injEq:= @Option.some.injEq
theorem ji :type_of% @Bool.not_eq_true':= @Bool.not_eq_true'
theorem pP :type_of% @Int.sign_eq_neg_one_of_neg:= @Int.sign_eq_neg_one_of_neg
theorem fM :type_of% @Nat.le_of_eq:= @Nat.le_of_eq
theorem lB :type_of% @List.length_pos_iff:= @List.length_pos_iff
theorem pQ :type_of% @Option.isSome_iff_exists:= @Option.isSome_iff_exists
theorem nu :type_of% @Nat.le_of_ble_eq_true:= @Nat.le_of_ble_eq_true
theorem pR :type_of% @Nat.le_mul_of_pos_right:= @Nat.le_mul_of_pos_right
theorem hY :type_of% @Bool.false_or:= @Bool.false_or
theorem nw :type_of% @List.mem_iff_getElem:= @List.mem_iff_getElem
theorem jL :type_of% @decide_eq_decide:= @decide_eq_decide
theorem jM :type_of% @Nat.mod_eq_of_lt:= @Nat.mod_eq_of_lt
theorem pS :type_of% @Int.sign_eq_one_of_pos:= @Int.sign_eq_one_of_pos
theorem jN :type_of% @Nat.min_eq_left:= @Nat.min_eq_left
theorem nz :type_of% @List.getElem?_drop:= @List.getElem?_drop
theorem sd :type_of% @Int.dvd_of_emod_eq_zero:= @Int.dvd_of_emod_eq_zero
theorem uO :type_of% @Int.tmod_eq_emod_of_nonneg:= @Int.tmod_eq_emod_of_nonneg
theorem gM :type_of% @Nat.mod_lt:= @Nat.mod_lt
theorem nE :type_of% @List.not_mem_nil:= @List.not_mem_nil
theorem jj :type_of% @Nat.beq_refl:= @Nat.beq_refl
theorem pT :type_of% @List.pairwise_cons:= @List.pairwise_cons
theorem lC :type_of% @List.take_left:= @List.take_left
theorem nF :type_of% @List.getElem?_set_ne:= @List.getElem?_set_ne
theorem se :type_of% @Int.toNat_of_nonneg:= @Int.toNat_of_nonneg
theorem pU :type_of% @List.mem_reverse:= @List.mem_reverse
theorem pV :type_of% @List.getElem_mem:= @List.getElem_mem
theorem nG :type_of% @List.nodup_nil:= @List.nodup_nil
theorem uP :type_of% @List.drop_eq_nil_of_le:= @List.drop_eq_nil_of_le
theorem si :type_of% @BitVec.toNat_ofInt:= @BitVec.toNat_ofInt
theorem jO :type_of% @Int.one_mul:= @Int.one_mul
theorem lD :type_of% @Int.mul_comm:= @Int.mul_comm
theorem jP :type_of% @Int.le_refl:= @Int.le_refl
theorem uQ :type_of% @Array.getElem?_toList:= @Array.getElem?_toList
theorem uR :type_of% @Nat.mul_le_mul_right:= @Nat.mul_le_mul_right
theorem vE :type_of% @List.pairwise_iff_getElem:= @List.pairwise_iff_getElem
theorem vF :type_of% @Array.getElem?_eq_getElem:= @Array.getElem?_eq_getElem
theorem kH :type_of% @List.filter_cons:= @List.filter_cons
theorem oW :type_of% @List.any_eq_true:= @List.any_eq_true
theorem oX :type_of% @Array.toList_map:= @Array.toList_map
theorem kJ :type_of% @List.map_nil:= @List.map_nil
theorem kK :type_of% @Int.zero_add:= @Int.zero_add
theorem kL :type_of% @Int.le_of_lt:= @Int.le_of_lt
theorem r8 :type_of% @Nat.lt_of_lt_of_le:= @Nat.lt_of_lt_of_le
theorem vG :type_of% @Int.tdiv_eq_ediv_of_dvd:= @Int.tdiv_eq_ediv_of_dvd
theorem mJ :type_of% @Int.add_assoc:= @Int.add_assoc
theorem vH :type_of% @Option.map_eq_some_iff:= @Option.map_eq_some_iff
theorem kM :type_of% @Nat.add_mul:= @Nat.add_mul
theorem r9 :type_of% @List.ext_getElem? := @List.ext_getElem?
theorem oY :type_of% @Bool.false_and:= @Bool.false_and
theorem vI :type_of% @List.set_append_right:= @List.set_append_right
theorem mK :type_of% @Int.pow_succ:= @Int.pow_succ
theorem vJ :type_of% @Array.getElem?_modify:= @Array.getElem?_modify
theorem fI :type_of% @if_true:= @if_true
theorem oZ :type_of% @Bool.and_true:= @Bool.and_true
theorem iJ :type_of% @if_false:= @if_false
theorem o5 :type_of% @Nat.sub_self:= @Nat.sub_self
theorem o6 :type_of% @Nat.le_trans:= @Nat.le_trans
theorem o7 :type_of% @Nat.le_of_lt:= @Nat.le_of_lt
theorem gE :type_of% @dif_pos:= @dif_pos
theorem kN :type_of% @List.getElem?_set_self:= @List.getElem?_set_self
theorem mL :type_of% @Nat.add_comm:= @Nat.add_comm
end Go.Proofs.YtlkkaielmdlefaaGreatDoor
namespace Go.Proofs.YtlkkaielmdlefaaGreatDoor.R1
inductive U where
 |int (k:IntKind)|bool|str|unit|pair (a b:U)|sl (e:U)
 deriving DecidableEq,Inhabited
@[reducible] def El : U → Type
 | .int _ => Int
 | .bool => Bool
 | .str => ByteArray
 | .unit => Unit
 | .pair a b => El a × El b
 | .sl e => List (El e)
def U.n :U->Nat
 |.unit=>0
 |.pair a b=>a.n+b.n
 |_=>1
def U.flat :U->Bool
 |.pair a b=>a.flat&&b.flat
 |.sl _=>false
 |_=>true
inductive O where
 |d (u:U)|p (a b:O)|s (t:Nat) (e:O)
 deriving DecidableEq,Inhabited
@[reducible] def O.u : O → U
 | .d u => u
 | .p a b => .pair a.u b.u
 | .s _ e => .sl e.u
inductive C where
 |int (k:IntKind) (n:Int)
 |bool (b:Bool)
 |str (s:ByteArray)
 |sl (u:U) (l:List (El u))
 |nils
 |slx (u:U) (l:List (El u))
 |row (n:Nat)
 |tail (n i sz:Nat)
 |ptr (n i sz off:Nat)
 |dptr (u:U) (x:El u) (off:Nat)
 |nilp
 |nilf
 |fn (f:Nat)
 |cap (g c:C)
 |mapr (b:Bool) (n:Nat)
 |nilm
inductive W1 where
 |c (x:C)
 |agg (xs:List C)
inductive V where
 |bad
 |und
 |v (x:W1)
 |tup (xs:List W1)
inductive B where
 |free
 |gone
 |row (e:Nat) (u:U) (l:List (El u))
 |ro (e:Nat) (u:U) (l:List (El u))
 |box (t:Nat) (cs:List C)
 |own (e:Nat) (o:O) (l:List (El o.u))
 |opn (e:Nat) (o:O) (l:List (El o.u)) (i:Nat) (cs:List C)
 |mp (t:Nat) (ka va:Bool) (ku vu:U) (l:List (El ku×El vu))
 |mr (t:Nat) (ka:Bool) (ku:U) (e:Nat) (u:U) (l:List (El ku×Option (List (El u))))
 |glo (q:Obj->Prop)
structure St where
 t:Nat->V
 h:Nat->B
def upd {α:Type}(f:Nat->α)(i:Nat)(x:α):Nat->α:=λj=>bif Nat.beq j i then x else f j
inductive TK where
 |int (k:IntKind)|bool|str
 |struct (fs:List (Nat×Nat))
 |arr (n e:Nat)
 |sl (e:Nat)
 |ptr (e:Nat)
 |func
 |map (k e:Nat)
 |other
def C.pO :C->C
 |.slx u l=>.sl u l
 |c=>c
structure TI where
 k:TK
 size:Nat
 bytes:Nat
 zero:List C
 u:U
 eq:Bool:=false
abbrev TT :=List (Nat×TI)
def assoc.{u}{α:Type u}:List (Nat×α)->Nat->Option α|[],_=>none|(i,x)::r,j=>bif Nat.beq i j then some x else assoc r j
def cB :(u:U)->El u->List C
 |.int k,n=>[.int k n]
 |.bool,b=>[.bool b]
 |.str,s=>[.str s]
 |.unit,_=>[]
 |.pair a b,x=>cB a x.1++cB b x.2
 |.sl e,l=>[.sl e l]
def dv (h:Nat->B)(u:U):C->Option (List (El u))
 |.sl u' l=>if e:u'=u then some (e▸l)else none
 |.slx u' l=>if e:u'=u then some (e▸l)else none
 |.nils=>some []
 |.row n=>match h n with
  |.row _ u' l=>if e:u'=u then some (e▸l)else none
  |.ro _ u' l=>if e:u'=u then some (e▸l)else none
  |.own _ o l=>if e:o.u=u then some (e▸l)else none
  |_=>none
 |_=>none
def bV (h:Nat->B):(u:U)->List C->Option (El u×List C)
 |.int k=>λcs=>match cs with
  |.int k' n::r=>if k'=k then some (n,r)else none
  |_=>none
 |.bool=>λcs=>match cs with
  |.bool b::r=>some (b,r)
  |_=>none
 |.str=>λcs=>match cs with
  |.str s::r=>some (s,r)
  |_=>none
 |.unit=>λcs=>some ((),cs)
 |.pair a b=>λcs=>match bV h a cs with
  |some (x,r)=>match bV h b r with
   |some (y,r)=>some ((x,y),r)
   |none=>none
  |none=>none
 |.sl e=>λcs=>match cs with
  |c::r=>match dv h e c with
   |some l=>some (l,r)
   |none=>none
  |[]=>none
def bn :List C->List Nat
 |[]=>[]
 |.row n::r=>n::bn r
 |_::r=>bn r
def B.freeze :B->B
 |.row e u l=>.ro e u l
 |.own e o l=>.ro e o.u l
 |.box .. =>.gone
 |.opn .. =>.gone
 |.mp .. =>.gone
 |.mr .. =>.gone
 |b=>b
def aZ (h:Nat->B):List Nat->Nat->B
 |[]=>h
 |n::r=>aZ (upd h n (h n).freeze) r
def datum (h:Nat->B)(u:U)(cs:List C):Option (El u):=
 match bV h u cs with
 |some (x,[])=>some x
 |_=>none
def dY (h:Nat->B)(u:U):Nat->List C->Option (List (El u))
 |0,cs=>match cs with
  |[]=>some []
  |_::_=>none
 |n+1,cs=>match bV h u cs with
  |some (x,r)=>match dY h u n r with
   |some l=>some (x::l)
   |none=>none
  |none=>none
def lh :Value->Option C
 |.int k n=>some (.int k n)
 |.bool b=>some (.bool b)
 |.string s=>some (.str s)
 |.slice a n c=>match a,n,c with
  |none,0,0=>some .nils
  |_,_,_=>none
 |.pointer a=>match a with
  |none=>some .nilp
  |some _=>none
 |.nilFunc=>some .nilf
 |.map r=>match r with
  |none=>some .nilm
  |some _=>none
 |.func g x y=>match g,x.toList,y.toList with
  |.func f,[],[]=>some (.fn f)
  |_,_,_=>none
 |_=>none
def dF :List Value->Option (List C)
 |[]=>some []
 |v::r=>match lh v with
  |some c=>match dF r with
   |some cs=>some (c::cs)
   |none=>none
  |none=>none
def zy :Value->V
 |.agg l=>match dF l.toList with
  |some cs=>.v (.agg cs)
  |none=>.bad
 |v=>match lh v with
  |some c=>.v (.c c)
  |none=>.bad
def cU (g:Nat):Nat:=1000000+g
def bH (n:Nat):Bool:=Nat.ble 1000000 n&&Nat.blt n 2000000
def gB (n:Nat):Bool:=Nat.ble 3000000 n&&Nat.blt n 4000000
def bZ (n:Nat):Bool:=bH n||gB n
def B.live :B->Bool
 |.free=>false
 |_=>true
def B.step :B->Nat
 |.row _ u _=>u.n
 |.ro _ u _=>u.n
 |_=>0
def O.jt :O->List Bool
 |.d u=>List.replicate u.n true
 |.p a b=>a.jt++b.jt
 |.s _ _=>[false]
def O.plain (o:O)(off n:Nat):Bool:=((o.jt.drop off).take n).all id&&Nat.ble (off+n) o.jt.length
def C.plain :C->Bool
 |.int .. |.bool _|.str _|.sl .. |.nils=>true
 |_=>false
def setAt :(o:O)->El o.u->Nat->C->Option (El o.u)
 |.d u,x,off,c=>bif Nat.blt off u.n&&c.plain then datum (λ_=>.free) u ((cB u x).set off c)else none
 |.p a b,x,off,c=>bif Nat.blt off a.u.n then(match setAt a x.1 off c with|some y=>some (y,x.2)|none=>none)else(match setAt b x.2 (off-a.u.n) c with|some y=>some (x.1,y)|none=>none)
 |.s _ _,_,_,_=>none
def W1.cells :W1->List C
 |.c x=>[x]
 |.agg xs=>xs
def setCell (o:O)(x:El o.u)(off:Nat):List C->Option (El o.u)
 |[c]=>setAt o x off c
 |_=>none
def rowOf (t:Nat):(e:O)->List (El e.u)->B
 |.d u,l=>.row t u l
 |e,l=>.own t e l
def O.rows :O->Nat
 |.d _=>0
 |.p a b=>a.rows+b.rows
 |.s _ _=>1
def lk :(o:O)->El o.u->Nat->List C
 |.d u,x,_=>cB u x
 |.p a b,x,k=>lk a x.1 k++lk b x.2 (k+a.rows)
 |.s _ _,_,k=>[.row k]
def gQ :(o:O)->El o.u->Nat->(Nat->B)->Nat->B
 |.d _,_,_,h=>h
 |.p a b,x,k,h=>gQ b x.2 (k+a.rows) (gQ a x.1 k h)
 |.s t e,l,k,h=>upd h k (rowOf t e l)
def xY (h:Nat->B)(k:Nat):Nat->Bool
 |0=>true
 |m+1=>(match h k,bZ k with|.free,false=>true|_,_=>false)&&xY h (k+1) m
def xA (t:Nat)(e:O):B->Option (List (El e.u))|.row t' u l=>bif Nat.beq t' t then(if q:O.d u=e then some (q▸(l:List (El (O.d u).u)))else none)else none|.own t' o l=>bif Nat.beq t' t then(if q:o=e then some (q▸l)else none)else none|_=>none
def B.isRow :B->Bool
 |.row .. =>true
 |.own .. =>true
 |_=>false
def cr (h:Nat->B):(o:O)->List C->Option (El o.u×List C×List Nat)
 |.d u,cs=>match datum h u (cs.take u.n),(bn (cs.take u.n)).all (λn=> !(h n).isRow)with
  |some x,true=>some (x,cs.drop u.n,[])
  |_,_=>none
 |.p a b,cs=>match cr h a cs with
  |some (x,r,ns)=>match cr h b r with
   |some (y,r,ms)=>some ((x,y),r,ns++ms)
   |none=>none
  |none=>none
 |.s t e,cs=>match cs with
  |.nils::r=>match Nat.blt 0 e.u.n with
   |true=>some ([],r,[])
   |false=>none
  |.row n::r=>match xA t e (h n)with
   |some l=>some (l,r,[n])
   |none=>none
  |_=>none
def distinct :List Nat->Bool
 |[]=>true
 |n::r=> !(r.any (Nat.beq n))&&distinct r
def cC (h:Nat->B):List Nat->Nat->B
 |[]=>h
 |n::r=>cC (upd h n .gone) r
def qV (h:Nat->B)(n:Nat):Nat->B:=match h n with
 |.opn t o l i cs=>match cr h o cs with
  |some (x,[],ns)=>match distinct ns with
   |true=>upd (cC h ns) n (.own t o (l.set i x))
   |false=>h
  |_=>h
 |_=>h
def xI (h:Nat->B):List Nat->Nat->B
 |[]=>h
 |n::r=>xI (qV h n) r
def dG (h:Nat->B)(o:O):Nat->List (Nat×V)->Option (List (El o.u)×List Nat)
 |_,[]=>some ([],[])
 |i,(j,.v w)::r=>match Nat.beq j i,cr h o w.cells with
  |true,some (x,[],ns)=>match dG h o (i+1) r with
   |some (l,ms)=>some (x::l,ns++ms)
   |none=>none
  |_,_=>none
 |_,_=>none
def ay (st:St):Operand->V
 |.tmp t=>st.t t
 |.const v=>zy v
 |.global g=>match bH (cU g)&&(st.h (cU g)).live with
  |true=>.v (.c (.ptr (cU g) 0 (st.h (cU g)).step 0))
  |false=>.bad
 |.func f=>.v (.c (.fn f))
def V.cells :V->Option (List C)
 |.v w=>some w.cells
 |_=>none
def V.one :V->Option C
 |.v (.c x)=>some x
 |_=>none
def V.w1 :V->Option W1
 |.v w=>some w
 |_=>none
section
variable {ρ : Type}
def aq {α:Type}(l:List α)(i:Int):Option α:=if 0≤i then l[i.toNat]? else none
def iZ (op:BinOp)(k:IntKind)(x y:Int)(κ:C->Option ρ):Option ρ:=
 match op with
 |.add=>κ (.int k (k.wrap (x+y)))
 |.sub=>κ (.int k (k.wrap (x-y)))
 |.mul=>κ (.int k (k.wrap (x*y)))
 |.quo=>bif decide (y=0)then none else κ (.int k (k.wrap (x.tdiv y)))
 |.rem=>bif decide (y=0)then none else κ (.int k (x.tmod y))
 |.and=>κ (.int k (k.wrap (BitVec.ofInt k.bits x&&&BitVec.ofInt k.bits y).toNat))
 |.or=>κ (.int k (k.wrap (BitVec.ofInt k.bits x|||BitVec.ofInt k.bits y).toNat))
 |.xor=>κ (.int k (k.wrap (BitVec.ofInt k.bits x^^^BitVec.ofInt k.bits y).toNat))
 |.andNot=>κ (.int k (k.wrap (BitVec.ofInt k.bits x&&& ~~~BitVec.ofInt k.bits y).toNat))
 |.eql=>κ (.bool (x==y))
 |.neq=>κ (.bool (x !=y))
 |.lss=>κ (.bool (decide (x<y)))
 |.leq=>κ (.bool (decide (x≤y)))
 |.gtr=>κ (.bool (decide (x>y)))
 |.geq=>κ (.bool (decide (x≥y)))
 |.shl=>bif decide (y<0)then none else κ (.int k (k.wrap (x*2^(min y.toNat k.bits))))
 |.shr=>bif decide (y<0)then none else κ (.int k (x.fdiv (2^(min y.toNat k.bits))))
def rY (op:BinOp)(x y:ByteArray)(κ:C->Option ρ):Option ρ:=
 match op with
 |.add=>bif decide (((x.size+y.size:Nat):Int)>9223372036854775807)then none else κ (.str (x++y))
 |.eql=>κ (.bool (x.toList==y.toList))
 |.neq=>κ (.bool (!(x.toList==y.toList)))
 |.lss=>κ (.bool (Op.bytesLess x.toList y.toList))
 |.leq=>κ (.bool (Op.bytesLess x.toList y.toList||x.toList==y.toList))
 |.gtr=>κ (.bool (!(Op.bytesLess x.toList y.toList||x.toList==y.toList)))
 |.geq=>κ (.bool (!Op.bytesLess x.toList y.toList))
 |_=>none
def TI.agg (i:TI):Bool:=match i.k with
 |.struct _|.arr .. =>true
 |_=>false
def jx (off n:Nat)(cs:List C):Option (List C):=bif Nat.ble (off+n) cs.length then some ((cs.drop off).take n)else none
def qm (tt:TT)(t:Nat)(cs:List C)(off:Nat):Option W1:=
 match assoc tt t with
 |some i=>match i.agg,jx off i.size cs with
  |true,some cs=>some (.agg cs)
  |false,some [c]=>some (.c c)
  |_,_=>none
 |none=>none
def Ek (rec:Nat->W1->W1->Option Bool)(tt:TT):List (Nat×Nat)->List C->List C->Option Bool
 |[],_,_=>some true
 |(off,t)::r,xs,ys=>match qm tt t xs off,qm tt t ys off with
  |some a,some b=>match rec t a b,Ek rec tt r xs ys with
   |some p,some q=>some (p&&q)
   |_,_=>none
  |_,_=>none
def eqT (tt:TT):Nat->Nat->W1->W1->Option Bool
 |0,_,_,_=>none
 |d+1,t,x,y=>match assoc tt t with
  |some i=>match i.k,x,y with
   |.int _,.c (.int k a),.c (.int k' b)=>if k=k' then some (a==b)else none
   |.bool,.c (.bool a),.c (.bool b)=>some (a==b)
   |.str,.c (.str a),.c (.str b)=>some (a.toList==b.toList)
   |.struct fs,.agg xs,.agg ys=>bif i.eq then Ek (eqT tt d) tt fs xs ys else none
   |_,_,_=>none
  |none=>none
def Jk (tt:TT)(t:Nat):Bool:=match assoc tt t with
 |some i=>match i.k with
  |.ptr _=>true
  |_=>false
 |none=>false
def oV :C->Option Bool
 |.nilp=>some true
 |.ptr .. =>some false
 |.dptr .. =>some false
 |_=>none
def M7 (tt:TT)(t:Nat):Bool:=match assoc tt t with
 |some i=>match i.k with
  |.sl _=>true
  |_=>false
 |none=>false
def yE :C->Option Bool
 |.nils=>some true
 |.slx .. =>some false
 |_=>none
def bin (tt:TT)(t:Nat)(op:BinOp)(x y:V)(κ:C->Option ρ):Option ρ:=
 match x,y with
 |.v (.c (.int k a)),.v (.c (.int k' b))=>
  match op with
  |.shl=>iZ .shl k a b κ
  |.shr=>iZ .shr k a b κ
  |op=>if k=k' then iZ op k a b κ else none
 |.v (.c (.str a)),.v (.c (.str b))=>rY op a b κ
 |.v (.c c),.v (.c .nilp)=>match op,Jk tt t,oV c with
  |.eql,true,some b=>κ (.bool b)
  |.neq,true,some b=>κ (.bool (!b))
  |_,_,_=>none
 |.v (.c c),.v (.c .nils)=>match op,M7 tt t,yE c with
  |.eql,true,some b=>κ (.bool b)
  |.neq,true,some b=>κ (.bool (!b))
  |_,_,_=>none
 |.v (.c (.bool a)),.v (.c (.bool b))=>match op,eqT tt 50 t (.c (.bool a)) (.c (.bool b))with
  |.eql,some r=>κ (.bool r)
  |.neq,some r=>κ (.bool (!r))
  |_,_=>none
 |.v (.agg a),.v (.agg b)=>match op,eqT tt 50 t (.agg a) (.agg b)with
  |.eql,some r=>κ (.bool r)
  |.neq,some r=>κ (.bool (!r))
  |_,_=>none
 |_,_=>none
def un (op:UnOp)(x:V)(κ:C->Option ρ):Option ρ:=
 match op,x with
 |.neg,.v (.c (.int k n))=>κ (.int k (k.wrap (0-n)))
 |.not,.v (.c (.bool b))=>κ (.bool (!b))
 |.xor,.v (.c (.int k n))=>κ (.int k (k.wrap (BitVec.ofInt k.bits (if k.signed then-1 else k.max)^^^BitVec.ofInt k.bits n).toNat))
 |_,_=>none
def asV (agg:Bool)(cs:List C):Option V:=
 match agg,cs with
 |true,cs=>some (.v (.agg cs))
 |false,[c]=>some (.v (.c c))
 |_,_=>none
def pL (off:Nat)(new cs:List C):Option (List C):=bif Nat.ble (off+new.length) cs.length then some (cs.take off++new++cs.drop (off+new.length))else none
def load (st:St)(i:TI)(a:C)(κ:V->Option ρ):Option ρ:=
 match a with
 |.ptr n j sz off=>match st.h n with
  |.box _ cs=>match j,jx off i.size cs with
   |0,some cs=>match asV i.agg cs with
    |some v=>κ v
    |none=>none
   |_,_=>none
  |.row _ u l=>bif Nat.beq sz u.n then(l[j]?).bind λx=>match jx off i.size (cB u x)with
     |some cs=>match asV i.agg cs with
      |some v=>κ v
      |none=>none
     |none=>none
   else none
  |.ro _ u l=>bif Nat.beq sz u.n then(l[j]?).bind λx=>match jx off i.size (cB u x)with
     |some cs=>match asV i.agg cs with
      |some v=>κ v
      |none=>none
     |none=>none
   else none
  |.own _ o l=>bif Nat.beq sz o.u.n&&o.plain off i.size then(l[j]?).bind λx=>match jx off i.size (cB o.u x)with
     |some cs=>match asV i.agg cs with
      |some v=>κ v
      |none=>none
     |none=>none
   else none
  |.opn _ o _ k cs=>bif Nat.beq sz o.u.n&&Nat.beq j k then(match jx off i.size cs with
     |some cs=>match asV i.agg cs with
      |some v=>κ v
      |none=>none
     |none=>none)
   else none
  |_=>none
 |.dptr u x off=>match jx off i.size (cB u x)with
  |some cs=>match asV i.agg cs with
   |some v=>κ v
   |none=>none
  |none=>none
 |_=>none
def gm (st:St)(h:Nat->B)(sz off j n:Nat)(new:List C)(κ:St->Option ρ):Option ρ:=
 match h n with
 |.row e u l=>bif Nat.beq sz u.n then(l[j]?).bind λx=>match pL off new (cB u x)with
    |some cs=>match datum h u cs with
     |some x=>κ {st with h:=upd h n (.row e u (l.set j x))}
     |none=>none
    |none=>none
  else none
 |_=>none
def store (wh:Bool)(st:St)(i:TI)(a:C)(v:V)(κ:St->Option ρ):Option ρ:=
 match v.cells with
 |none=>none
 |some new=>bif Nat.beq new.length i.size then
  match a with
  |.ptr n j sz off=>match st.h n with
   |.box t cs=>match j,pL off new cs with
    |0,some cs=>κ {st with h:=upd st.h n (.box t cs)}
    |_,_=>none
   |.row .. =>gm st (aZ st.h (bn new)) sz off j n new κ
   |.own e o l=>match Nat.beq sz o.u.n with
    |true=>(l[j]?).bind λx=>match setCell o x off new with
     |some y=>κ {st with h:=upd st.h n (.own e o (l.set j y))}
     |none=>bif wh&&Nat.beq off 0&&Nat.beq new.length o.u.n then κ {st with h:=qV (upd st.h n (.opn e o l j new)) n}else none
    |false=>none
   |.opn e o l k cs=>bif Nat.beq sz o.u.n&&Nat.beq j k then(match pL off new cs with
      |some cs=>κ {st with h:=upd st.h n (.opn e o l k cs)}
      |none=>none)
    else none
   |_=>none
  |_=>none
  else none
def mB (st:St)(i:TI)(a:C)(d:Nat)(κ:V->St->Option ρ):Option ρ:=
 match a with
 |.ptr n j sz off=>match st.h n with
  |.own t o l=>match Nat.beq sz o.u.n&&Nat.ble o.rows 100,xY st.h (2000000+d*100) o.rows with
   |true,true=>(l[j]?).bind λx=>match jx off i.size (lk o x (2000000+d*100))with
    |some cs=>match asV i.agg cs with
     |some v=>κ v {st with h:=gQ o x (2000000+d*100) (upd st.h n (.opn t o l j (lk o x (2000000+d*100))))}
     |none=>none
    |none=>none
   |_,_=>none
  |_=>load st i a λv=>κ v st
 |_=>load st i a λv=>κ v st
def dN {u:U}(h:Nat->B):List (Nat×V)->List (El u)->Option (List (El u))
 |[],l=>some l
 |(i,v)::r,l=>match v.cells with
  |some cs=>match datum h u cs with
   |some x=>bif Nat.blt i l.length then dN h r (l.set i x)else none
   |none=>none
  |none=>none
def eA :List (Nat×V)->List Nat
 |[]=>[]
 |(_,.v w)::r=>bn w.cells++eA r
 |_::r=>eA r
def iY (fs:List (Nat×Nat))(size:Nat->Option Nat):List (Nat×V)->List C->Option (List C)
 |[],cs=>some cs
 |(i,v)::r,cs=>match fs[i]?,v.cells with
  |some (off,t),some new=>match size t with
   |some s=>bif Nat.beq new.length s then(match pL off new cs with|some cs=>iY fs size r cs|none=>none)else none
   |none=>none
  |_,_=>none
def dZ (st:St)(n:Nat)(b:B)(κ:St->Option ρ):Option ρ:=
 match st.h n,bZ n with
 |.free,false=>κ {st with h:=upd st.h n b}
 |_,_=>none
def newRow (st:St)(n e:Nat)(u:U)(l:List (El u))(κ:St->Option ρ):Option ρ:=
 match Nat.blt 0 u.n with
 |true=>dZ st n (.row e u l) κ
 |false=>none
def news (h:Nat->B)(u:U):C->Option (List (El u))
 |.row n=>match h n with
  |.own .. =>none
  |_=>dv h u (.row n)
 |c=>dv h u c
def roomy :Nat:=140737488351232
def gY (st:St)(n e:Nat)(o:O)(l:List (El o.u))(κ:St->Option ρ):Option ρ:=
 match Nat.blt 0 o.u.n with
 |true=>dZ st n (.own e o l) κ
 |false=>none
def ga (h:Nat->B)(e:Nat)(o:O):C->Option (List (El o.u)×List Nat)
 |.nils=>some ([],[])
 |.row m=>match h m with
  |.own t o' l=>bif Nat.beq t e then(if q:o'=o then some (q▸l,[m])else none)else none
  |_=>none
 |_=>none
def fu (st:St)(dst:Nat)(e:Nat)(o:O)(ie:TI)(s x:C)(κ:V->St->Option ρ):Option ρ:=
 match ga st.h e o s,ga st.h e o x with
 |some (l,ns),some (l2,ms)=>match distinct (ns++ms),(if o.u=ie.u then true else false)with
  |true,true=>bif decide ((l.length+l2.length)*ie.bytes≤roomy)then gY {st with h:=cC st.h (ns++ms)} dst e o (l++l2) (κ (.v (.c (.row dst))))else none
  |_,_=>none
 |_,_=>none
def append (st:St)(dst:Nat)(e:Nat)(ie:TI)(s x:C)(κ:V->St->Option ρ):Option ρ:=
 match s with
 |.nils=>match news st.h ie.u x with
  |some l2=>bif decide (l2.length*ie.bytes≤roomy)then newRow st dst e ie.u l2 (κ (.v (.c (.row dst))))else none
  |none=>none
 |.row n=>match st.h n with
  |.row e' u l=>match Nat.beq e' e,(if u=ie.u then true else false)with
   |true,true=>match news st.h u x with
    |some l2=>bif decide ((l.length+l2.length)*ie.bytes≤roomy)then newRow {st with h:=upd st.h n .gone} dst e u (l++l2) (κ (.v (.c (.row dst))))else none
    |none=>none
   |_,_=>none
  |_=>none
 |_=>none
def iN (tt:TT)(k:Nat):(u:U)->Option (El u->El u->Bool)
 |.int k'=>match assoc tt k with
  |some i=>match i.k with
   |.int k''=>if k''=k' then some λa b=>a==b else none
   |_=>none
  |none=>none
 |_=>none
def b8 {α β:Type}(eq:α->α->Bool)(k:α):List (α×β)->Option β|[]=>none|p::r=>bif eq k p.1 then some p.2 else b8 eq k r
def cd {α β:Type}(eq:α->α->Bool)(k:α)(v:β):List (α×β)->List (α×β)|[]=>[(k,v)]|p::r=>bif eq k p.1 then(k,v)::r else p::cd eq k v r
def mapIdx {α β:Type}(eq:α->α->Bool)(k:α):List (α×β)->Nat|[]=>0|p::r=>bif eq k p.1 then 0 else mapIdx eq k r+1
def lg {α β:Type}(eq:α->α->Bool)(k:α)(z:β):List (α×β)->List (α×β)|[]=>[(k,z)]|p::r=>bif eq k p.1 then(k,p.2)::r else p::lg eq k z r
def fo :Bool->Bool->Bool
 |true,b=>b
 |false,b=> !b
def W1.isAgg :W1->Bool
 |.agg _=>true
 |.c _=>false
def dP (a:Bool)(u:U):V->Option (El u)
 |.v w=>match fo w.isAgg a&&w.cells.all C.plain with
  |true=>datum (λ_=>.free) u w.cells
  |false=>none
 |_=>none
def Hn (ok:Bool)(w:W1)(b:Bool):V:=match ok with
 |true=>.tup [w,.c (.bool b)]
 |false=>.v w
def fW (st:St)(ik ie:TI)(zero:Option (El ie.u))(eq:Option (El ik.u->El ik.u->Bool))(t:Nat)(x key:V)(ok:Bool)(κ:V->Option ρ):Option ρ:=
 match zero,eq,dP ik.agg ik.u key with
 |some z,some eq,some k=>
  let go:Option (El ie.u)->Option ρ:=λr=>match asV ie.agg (cB ie.u (r.getD z))with
   |some (.v w)=>κ (Hn ok w r.isSome)
   |_=>none
  match x with
  |.v (.c .nilm)=>go none
  |.v (.c (.mapr _ n))=>match st.h n with
   |.mp t' ka va ku vu l=>match Nat.beq t' t&&fo ka ik.agg&&fo va ie.agg with
    |true=>if h:ku=ik.u/\vu=ie.u then go (b8 eq k (h.1▸h.2▸l))else none
    |false=>none
   |_=>none
  |_=>none
 |_,_,_=>none
def fH (st:St)(ik ie:TI)(eq:Option (El ik.u->El ik.u->Bool))(t:Nat)(x key val:V)(κ:St->Option ρ):Option ρ:=
 match eq,dP ik.agg ik.u key,dP ie.agg ie.u val with
 |some eq,some k,some v=>match x with
  |.v (.c (.mapr b n))=>bif b then none else match st.h n with
   |.mp t' ka va ku vu l=>match Nat.beq t' t&&fo ka ik.agg&&fo va ie.agg with
    |true=>if h:ku=ik.u/\vu=ie.u then κ {st with h:=upd st.h n (.mp t' ka va ik.u ie.u (cd eq k v (h.1▸h.2▸l)))}else none
    |false=>none
   |_=>none
  |_=>none
 |_,_,_=>none
def iU (st:St)(ik ie:TI)(zero:Option (El ie.u))(eq:Option (El ik.u->El ik.u->Bool))(t:Nat)(x key:V)(κ:V->St->Option ρ):Option ρ:=
 match zero,eq,dP ik.agg ik.u key with
 |some z,some eq,some k=>match x with
  |.v (.c (.mapr b n))=>bif b then none else match st.h n with
   |.mp t' ka va ku vu l=>match Nat.beq t' t&&fo ka ik.agg&&fo va ie.agg with
    |true=>if h:ku=ik.u/\vu=ie.u then(match asV ie.agg (cB ie.u ((b8 eq k (h.1▸h.2▸l)).getD z))with
     |some (.v w)=>κ (.tup [w,.c (.int .i64 (mapIdx eq k (h.1▸h.2▸l:List (El ik.u×El ie.u)):Int))]) {st with h:=upd st.h n (.mp t' ka va ik.u ie.u (lg eq k z (h.1▸h.2▸l)))}
     |_=>none)else none
    |false=>none
   |_=>none
  |_=>none
 |_,_,_=>none
def fv (st:St)(ie:TI)(t:Nat)(x stamp val:V)(κ:St->Option ρ):Option ρ:=
 match x,stamp,dP ie.agg ie.u val with
 |.v (.c (.mapr b n)),.v (.c (.int _ j)),some v=>bif b then none else match st.h n with
  |.mp t' ka va ku vu l=>match Nat.beq t' t&&fo va ie.agg with
   |true=>if h:vu=ie.u then(aq l j).bind λp=>κ {st with h:=upd st.h n (.mp t' ka va ku ie.u ((h▸l:List (El ku×El ie.u)).set j.toNat (p.1,v)))}else none
   |false=>none
  |_=>none
 |_,_,_=>none
def dr {α β:Type}(eq:α->α->Bool)(k:α):List (α×Option (List β))->Option (List β×List (α×Option (List β)))
 |[]=>some ([],[])
 |p::r=>bif eq k p.1 then(match p.2 with
   |some l=>some (l,(p.1,none)::r)
   |none=>none)else(match dr eq k r with
   |some q=>some (q.1,p::q.2)
   |none=>none)
def mO {α β:Type}:List (α×Option (List β))->Option (List (α×List β))
 |[]=>some []
 |p::r=>match p.2,mO r with
  |some l,some q=>some ((p.1,l)::q)
  |_,_=>none
def jU (st:St)(ik ie:TI)(eq:Option (El ik.u->El ik.u->Bool))(t dst:Nat)(x key:V)(κ:V->St->Option ρ):Option ρ:=
 match eq,dP ik.agg ik.u key,ie.zero,ie.agg with
 |some eq,some k,[.nils],false=>match x with
  |.v (.c (.mapr _ n))=>match st.h n with
   |.mr t' ka ku e u l=>match Nat.beq t' t&&fo ka ik.agg&&Nat.blt 0 u.n with
    |true=>if h:ku=ik.u then(dr eq k (h▸l)).bind λp=>dZ {st with h:=upd st.h n (.mr t' ka ik.u e u p.2)} dst (.row e u p.1) (κ (.v (.c (.row dst))))else none
    |false=>none
   |_=>none
  |_=>none
 |_,_,_,_=>none
def sL (st:St):V->Bool
 |.v (.c (.mapr _ n))=>match st.h n with
  |.mr .. =>true
  |_=>false
 |_=>false
def gC (st:St)(ik:TI)(eq:Option (El ik.u->El ik.u->Bool))(t:Nat)(x key val:V)(κ:St->Option ρ):Option ρ:=
 match eq,dP ik.agg ik.u key,val with
 |some eq,some k,.v (.c (.row m))=>match x with
  |.v (.c (.mapr b n))=>bif b then none else match st.h n,st.h m with
   |.mr t' ka ku e u l,.row e' u' r=>match Nat.beq t' t&&fo ka ik.agg&&Nat.beq e' e with
    |true=>if h:ku=ik.u/\u'=u then κ {st with h:=upd (upd st.h m .gone) n (.mr t' ka ik.u e u (cd eq k (some (h.2▸r)) (h.1▸l)))}else none
    |false=>none
   |_,_=>none
  |_=>none
 |_,_,_=>none
def mN (st:St)(x:V)(κ:St->Option ρ):Option ρ:=
 match x with
 |.v (.c (.mapr _ n))=>match st.h n with
  |.mr t ka ku _ u l=>(mO l).bind λl'=>κ {st with h:=upd st.h n (.mp t ka false ku (.sl u) l')}
  |_=>none
 |_=>none
end
inductive CK where
 |int (k:IntKind)|bool|str|sl (u:U)|slx (u:U)
 |row (n:Nat)
 |tail (n sz:Nat)
 |tailr (n sz:Nat)
 |box (n:Nat)
 |dp (u:U)
 |lit (c:C)
 |cap (g c:CK)
 |mapr (n:Nat)
 |mapl (n:Nat)
inductive VK where
 |c (k:CK)
 |agg (ks:List CK)
inductive BK where
 |row (e:Nat) (u:U)
 |box (t:Nat) (ks:List CK)
 |own (e:Nat) (o:O)
 |mp (t:Nat) (ka va:Bool) (ku vu:U)
 |mr (t:Nat) (ka:Bool) (ku:U) (e:Nat) (u:U)
@[reducible] def CK.T : CK → Type
 | .int _ => Int
 | .bool => Bool
 | .str => ByteArray
 | .sl u => List (El u)
 | .slx u => List (El u)
 | .dp u => El u
 | .tail .. => Nat
 | .tailr .. => Nat
 | .cap g c => g.T × c.T
 | .mapr _ => Bool
 | .mapl _ => Bool
 | _ => Unit
@[reducible] def sk : List CK → Type
 | [] => Unit
 | k :: r => k.T × sk r
@[reducible] def VK.T : VK → Type
 | .c k => k.T
 | .agg ks => sk ks
@[reducible] def nJ : List (Nat × VK) → Type
 | [] => Unit
 | (_, k) :: r => k.T × nJ r
@[reducible] def BK.T : BK → Type
 | .row _ u => List (El u)
 | .box _ ks => sk ks
 | .own _ o => List (El o.u)
 | .mp _ _ _ ku vu => List (El ku × El vu)
 | .mr _ _ ku _ u => List (El ku × Option (List (El u)))
@[reducible] def jW : List (Nat × BK) → Type
 | [] => Unit
 | (_, k) :: r => k.T × jW r
structure Spec where
 temps:List (Nat×VK)
 blocks:List (Nat×BK):=[]
 ren:List (Nat×Option Nat):=[]
@[reducible] def Spec.V (s : Spec) : Type := nJ s.temps × jW s.blocks
def CK.mk :(k:CK)->k.T->C
 |.int k,n=>.int k n
 |.bool,b=>.bool b
 |.str,s=>.str s
 |.sl u,l=>.sl u l
 |.slx u,l=>.slx u l
 |.row n,_=>.row n
 |.tail n sz,i=>.tail n i sz
 |.tailr n sz,i=>.tail n i sz
 |.box n,_=>.ptr n 0 0 0
 |.dp u,x=>.dptr u x 0
 |.lit c,_=>c
 |.cap g c,x=>.cap (g.mk x.1) (c.mk x.2)
 |.mapr n,b=>.mapr b n
 |.mapl n,b=>.mapr b n
def xn :(ks:List CK)->sk ks->List C
 |[],_=>[]
 |k::r,x=>k.mk x.1::xn r x.2
def VK.mkW :(k:VK)->k.T->W1
 |.c k,x=>.c (k.mk x)
 |.agg ks,x=>.agg (xn ks x)
def BK.mk :(k:BK)->k.T->B
 |.row e u,l=>.row e u l
 |.box t ks,x=>.box t (xn ks x)
 |.own e o,l=>.own e o l
 |.mp t ka va ku vu,l=>.mp t ka va ku vu l
 |.mr t ka ku e u,l=>.mr t ka ku e u l
def gD :(ts:List (Nat×VK))->nJ ts->Nat->V
 |[],_=>λ_=>.bad
 |(i,k)::r,x=>upd (gD r x.2) i (.v (k.mkW x.1))
def cE (base:Nat->B):(bs:List (Nat×BK))->jW bs->Nat->B
 |[],_=>base
 |(i,k)::r,x=>upd (cE base r x.2) i (k.mk x.1)
def Spec.st (aB:Nat->B)(s:Spec)(v:s.V):St:=⟨gD s.temps v.1,cE aB s.blocks v.2⟩
structure Ren where
 map:List (Nat×Option Nat)
 frz:List Nat
def gO (map:List (Nat×Option Nat))(n m:Nat):Bool:=
 match assoc map n with
 |some (some x)=>Nat.beq x m
 |some none=>false
 |none=>bH n&&Nat.beq n m
def qg (map:List (Nat×Option Nat)):C->C->Bool
 |.row n,.row m=>gO map n m
 |.ptr n i sz off,.ptr m i' sz' off'=>gO map n m&&Nat.beq i i'&&Nat.beq sz sz'&&Nat.beq off off'
 |.nils,.nils=>true
 |.nilp,.nilp=>true
 |.nilf,.nilf=>true
 |.fn f,.fn g=>Nat.beq f g
 |.cap g c,.cap g' c'=>qg map g g'&&qg map c c'
 |.nilm,.nilm=>true
 |_,_=>false
def CK.ext (h:Nat->B):(k:CK)->C->Ren->Option (k.T×Ren)
 |.int k=>λc r=>match c with
  |.int k' n=>if k'=k then some (n,r)else none
  |_=>none
 |.bool=>λc r=>match c with
  |.bool b=>some (b,r)
  |_=>none
 |.str=>λc r=>match c with
  |.str s=>some (s,r)
  |_=>none
 |.sl u=>λc r=>match dv h u c with
  |some l=>some (l,match c with|.row m=>{r with frz:=m::r.frz}|_=>r)
  |none=>none
 |.slx u=>λc r=>match c with
  |.slx u' l=>if e:u'=u then some (e▸l,r)else none
  |_=>none
 |.row n=>λc r=>match c with
  |.row m=>some ((),{r with map:=(n,some m)::r.map})
  |.nils=>some ((),{r with map:=(n,none)::r.map})
  |_=>none
 |.tail n sz=>λc r=>match c with
  |.tail m i sz'=>bif gO r.map n m&&Nat.beq sz' sz then some (i,r)else none
  |_=>none
 |.tailr n sz=>λc r=>match c with
  |.tail m i sz'=>bif Nat.beq sz' sz then some (i,{r with map:=(n,some m)::r.map})else none
  |_=>none
 |.box n=>λc r=>match c with
  |.ptr m i _ off=>match i,off with
   |0,0=>some ((),{r with map:=(n,some m)::r.map})
   |_,_=>none
  |_=>none
 |.dp u=>λc r=>match c with
  |.dptr u' x off=>match off with
   |0=>if e:u'=u then some (e▸x,r)else none
   |_=>none
  |.ptr m i _ off=>match i,off,h m with
   |0,0,.box _ cs=>match datum h u cs with
    |some x=>some (x,{r with frz:=m::(bn cs++r.frz)})
    |none=>none
   |_,_,_=>none
  |_=>none
 |.lit c=>λc' r=>bif qg r.map c c' then some ((),r)else none
 |.cap g c=>λc' r=>match c' with
  |.cap g' c'=>match g.ext h g' r with
   |some (x,r)=>match c.ext h c' r with
    |some (y,r)=>some ((x,y),r)
    |none=>none
   |none=>none
  |_=>none
 |.mapr n=>λc r=>match c with
  |.mapr b m=>some (b,{r with map:=(n,some m)::r.map})
  |.nilm=>some (true,{r with map:=(n,none)::r.map})
  |_=>none
 |.mapl n=>λc r=>match c with
  |.mapr b m=>bif gO r.map n m then some (b,r)else none
  |_=>none
def iz (h:Nat->B):(ks:List CK)->List C->Ren->Option (sk ks×Ren)
 |[]=>λcs r=>match cs with
  |[]=>some ((),r)
  |_::_=>none
 |k::ks=>λcs r=>match cs with
  |c::cs=>match k.ext h c r with
   |some (x,r)=>match iz h ks cs r with
    |some (y,r)=>some ((x,y),r)
    |none=>none
   |none=>none
  |[]=>none
def VK.ext (h:Nat->B):(k:VK)->V->Ren->Option (k.T×Ren)
 |.c k=>λv r=>match v with
  |.v (.c x)=>k.ext h x r
  |_=>none
 |.agg ks=>λv r=>match v with
  |.v (.agg xs)=>iz h ks xs r
  |_=>none
def iA (st:St):(ts:List (Nat×VK))->Ren->Option (nJ ts×Ren)
 |[],r=>some ((),r)
 |(i,k)::ts,r=>match k.ext st.h (st.t i) r with
  |some (x,r)=>match iA st ts r with
   |some (y,r)=>some ((x,y),r)
   |none=>none
  |none=>none
def BK.ext (h:Nat->B):(k:BK)->Option Nat->Ren->Option (k.T×Ren)
 |.row e u=>λm r=>match m with
  |some m=>match h m with
   |.row e' u' l=>bif Nat.beq e' e then(if q:u'=u then some (q▸l,r)else none)else none
   |_=>none
  |none=>match Nat.blt 0 u.n with
   |true=>some ([],r)
   |false=>none
 |.box t ks=>λm r=>match m with
  |some m=>match h m with
   |.box t' cs=>bif Nat.beq t' t then iz h ks cs r else none
   |_=>none
  |none=>none
 |.own e o=>λm r=>match m with
  |some m=>match h m with
   |.own e' o' l=>bif Nat.beq e' e then(if q:o'=o then some (q▸l,r)else none)else none
   |_=>none
  |none=>match Nat.blt 0 o.u.n with
   |true=>some ([],r)
   |false=>none
 |.mp t ka va ku vu=>λm r=>match m with
  |some m=>match h m with
   |.mp t' ka' va' ku' vu' l=>bif Nat.beq t' t&&fo ka' ka&&fo va' va then(if q:ku'=ku/\vu'=vu then some (q.1▸q.2▸l,r)else none)else none
   |_=>none
  |none=>match ku.flat&&vu.flat with
   |true=>some ([],r)
   |false=>none
 |.mr t ka ku e u=>λm r=>match m with
  |some m=>match h m with
   |.mr t' ka' ku' e' u' l=>bif Nat.beq t' t&&fo ka' ka&&Nat.beq e' e then(if q:ku'=ku/\u'=u then some (q.1▸q.2▸l,r)else none)else none
   |_=>none
  |none=>none
def iy (h:Nat->B):(bs:List (Nat×BK))->Ren->Option (jW bs×Ren)
 |[],r=>some ((),r)
 |(n,k)::bs,r=>match assoc r.map n with
  |some m=>match k.ext h m r with
   |some (x,r)=>match iy h bs r with
    |some (y,r)=>some ((x,y),r)
    |none=>none
   |none=>none
  |none=>none
def bP :List (Nat×Option Nat)->List Nat
 |[]=>[]
 |(_,some m)::r=>m::bP r
 |(_,none)::r=>bP r
def vo (blocks:List (Nat×BK))(r:Ren):Bool:=
 distinct (r.map.map (·.1))&&distinct (bP r.map)&&r.map.all (λp=>(assoc blocks p.1).isSome)&&blocks.all (λb=> !bH b.1)&&r.frz.all (λm=> !((bP r.map).any (Nat.beq m)))
def LY (r:Ren):Bool:=r.map.all λp=> !gB p.1||(match p.2 with|some m=>Nat.beq m p.1|none=>false)
def Spec.ext (s:Spec)(st:St):Option (s.V×Ren):=
 match iA st s.temps ⟨s.ren,[]⟩with
 |some (x,r)=>match iy st.h s.blocks r with
  |some (y,r)=>bif vo s.blocks r then some ((x,y),r)else none
  |none=>none
 |none=>none
def Spec.own (s:Spec)(st:St):Option s.V:=
 match s.ext st with
 |some (v,r)=>match LY r with
  |true=>some v
  |false=>none
 |none=>none
structure af where
 id:Nat
 ar:Spec
 res:Spec
 f:Nat->ar.V->Option res.V
def O.flat :O->Bool
 |.d u=>u.flat
 |.p a b=>a.flat&&b.flat
 |.s _ e=>e.flat
def C.flat :C->Bool
 |.sl .. =>false
 |.slx .. =>false
 |.dptr .. =>false
 |.cap g c=>g.flat&&c.flat
 |_=>true
def CK.flat :CK->Bool
 |.sl _=>false
 |.slx _=>false
 |.dp _=>false
 |.lit c=>c.flat
 |.cap g c=>g.flat&&c.flat
 |_=>true
def VK.flat :VK->Bool
 |.c k=>k.flat
 |.agg ks=>ks.all CK.flat
def BK.flat :BK->Bool
 |.row _ u=>u.flat
 |.box _ ks=>ks.all CK.flat
 |.own _ o=>o.flat
 |.mp _ _ _ ku vu=>ku.flat&&vu.flat
 |.mr _ _ ku _ u=>ku.flat&&u.flat
def Spec.flat (s:Spec):Bool:=s.temps.all (λp=>p.2.flat)&&s.blocks.all (λp=>p.2.flat)
def ofList (l:List V):Nat->V:=λi=>(l[i]?).getD .bad
def cn (nm:List (Nat×Nat))(n:Nat):Nat:=(assoc nm n).getD n
def uG (nm:List (Nat×Nat)):C->C
 |.row n=>.row (cn nm n)
 |.tail n i sz=>.tail (cn nm n) i sz
 |.ptr n i sz off=>.ptr (cn nm n) i sz off
 |.cap g c=>.cap (uG nm g) (uG nm c)
 |.mapr b n=>.mapr b (cn nm n)
 |c=>c
def W1.ren (nm:List (Nat×Nat)):W1->W1
 |.c x=>.c (uG nm x)
 |.agg xs=>.agg (xs.map (uG nm))
def B.ren (nm:List (Nat×Nat)):B->B
 |.box t cs=>.box t (cs.map (uG nm))
 |b=>b
def lr :(ts:List (Nat×VK))->nJ ts->List W1
 |[],_=>[]
 |(_,k)::r,x=>k.mkW x.1::lr r x.2
def dd (map:List (Nat×Option Nat))(dst:Nat):List (Nat×BK)->Nat->List (Nat×Nat)
 |[],_=>[]
 |(n,_)::r,i=>match assoc map n with
  |some (some m)=>(n,m)::dd map dst r i
  |_=>(n,2000000+dst*100+i)::dd map dst r (i+1)
def gW (h:Nat->B):List (Nat×Option Nat)->Nat->B
 |[]=>h
 |(_,some m)::r=>gW (upd h m .gone) r
 |_::r=>gW h r
def gV (h:Nat->B)(map:List (Nat×Option Nat)):List (Nat×Nat)->Bool
 |[]=>true
 |(n,m)::r=>(match assoc map n with
  |some (some _)=>true
  |_=>match h m,bZ m with|.free,false=>true|_,_=>false)&&gV h map r
def gZ (nm:List (Nat×Nat))(h:Nat->B):(bs:List (Nat×BK))->jW bs->Nat->B
 |[],_=>h
 |(n,k)::r,x=>upd (gZ nm h r x.2) (cn nm n) ((k.mk x.1).ren nm)
def zG :List W1->V
 |[w]=>.v w
 |ws=>.tup ws
variable {ρ : Type}
def e7 (k:Nat)(st:St)(dst:Nat)(args:List V)(e:af)(κ:V->St->Option ρ)(other:Option ρ):Option ρ:=
 match e.ar.ext ⟨ofList args,st.h⟩,Nat.beq args.length e.ar.temps.length with
 |some (v,r),true=>
  (e.f k v).bind λo=>
   match gV st.h r.map (dd r.map dst e.res.blocks 0),distinct ((dd r.map dst e.res.blocks 0).map (·.2))with
   |true,true=>
    κ (zG ((lr e.res.temps o.1).map (W1.ren (dd r.map dst e.res.blocks 0))))
     {st with h:=gZ (dd r.map dst e.res.blocks 0) (gW (match e.res.flat with|true=>st.h|false=>aZ st.h r.frz) r.map) e.res.blocks o.2}
   |_,_=>none
 |_,_=>other
def gf (k:Nat)(st:St)(dst f:Nat)(args:List V)(κ:V->St->Option ρ):List af->Option ρ
 |[]=>none
 |e::r=>match Nat.beq e.id f with
  |true=>e7 k st dst args e κ (gf k st dst f args κ r)
  |false=>gf k st dst f args κ r
def pI :C->List V->Option (Nat×List V)
 |.fn f,acc=>some (f,acc)
 |.cap g c,acc=>pI g (.v (.c c)::acc)
 |_,_=>none
structure Cfg where
 tt:TT
 n:Nat
 fns:List af
 trunc:List Nat:=[]
 tails:List Nat:=[]
 touch:List (Nat×List (Nat×List Nat)):=[]
 opens:List Nat:=[]
 shapes:List (Nat×O):=[]
 fJ:List (Nat×List Nat):=[]
 whole:Bool:=false
 boxes:List Nat:=[]
 takes:List Nat:=[]
 melts:List Nat:=[]
 k:Nat
 aB:Nat->B:=λ_=>.free
def Cfg.ty (cfg:Cfg)(t:Nat):Option TI:=assoc cfg.tt t
def Cfg.TU (cfg:Cfg)(d:Nat)(k:TK):TK:=bif cfg.boxes.any (Nat.beq d)then .other else k
def Cfg.uq (cfg:Cfg)(d t:Nat)(ik ie:TI):B:=match cfg.takes.any (Nat.beq d),ie.k with
 |true,.sl e=>match cfg.ty e with
  |some iee=>.mr t ik.agg ik.u e iee.u []
  |none=>.mp t ik.agg ie.agg ik.u ie.u []
 |_,_=>.mp t ik.agg ie.agg ik.u ie.u []
def kW (g:C):List V->Option C
 |[]=>some g
 |.v (.c c)::r=>kW (.cap g c) r
 |_=>none
def lenOf (st:St)(i:TI)(x:C):Option Int:=
 match i.k,x with
 |.sl _,.sl _ l=>some (l.length:Int)
 |.sl _,.slx _ l=>some (l.length:Int)
 |.sl _,.nils=>some 0
 |.str,.str s=>some (s.size:Int)
 |.sl _,.row n=>match st.h n with
  |.row _ _ l=>some (l.length:Int)
  |.ro _ _ l=>some (l.length:Int)
  |.own _ _ l=>some (l.length:Int)
  |.opn _ _ l .. =>some (l.length:Int)
  |_=>none
 |.sl _,.tail n j _=>match st.h n with
  |.row _ _ l=>some ((l.length-j:Nat):Int)
  |_=>none
 |_,_=>none
def jC (isMax:Bool):C->List V->Option C|x,[]=>some x|.int k x,.v (.c (.int k' y))::r=>if k'=k then jC isMax (.int k (bif isMax then(bif decide (y>x)then y else x)else(bif decide (y<x)then y else x))) r else none|_,_=>none
def indexAddr (st:St)(i:TI)(esz:Nat)(x:C)(j:Int)(κ:C->Option ρ):Option ρ:=
 match i.k,x with
 |.sl _,.sl u l=>match Nat.beq esz u.n&&Nat.blt 0 u.n with
  |true=>(aq l j).bind λx=>κ (.dptr u x 0)
  |false=>none
 |.sl _,.row n=>match st.h n with
  |.row _ u l=>match Nat.beq esz u.n with
   |true=>bif decide (0≤j)&&decide (j<(l.length:Int))then κ (.ptr n j.toNat u.n 0)else none
   |false=>none
  |.ro _ u l=>match Nat.beq esz u.n with
   |true=>bif decide (0≤j)&&decide (j<(l.length:Int))then κ (.ptr n j.toNat u.n 0)else none
   |false=>none
  |.own _ o l=>match Nat.beq esz o.u.n with
   |true=>bif decide (0≤j)&&decide (j<(l.length:Int))then κ (.ptr n j.toNat o.u.n 0)else none
   |false=>none
  |.opn _ o l .. =>match Nat.beq esz o.u.n with
   |true=>bif decide (0≤j)&&decide (j<(l.length:Int))then κ (.ptr n j.toNat o.u.n 0)else none
   |false=>none
  |_=>none
 |.sl _,.tail n i sz=>match st.h n with
  |.row _ u l=>match Nat.beq esz u.n&&Nat.beq sz u.n with
   |true=>bif decide (0≤j)&&decide (j<((l.length-i:Nat):Int))then κ (.ptr n (i+j.toNat) u.n 0)else none
   |false=>none
  |_=>none
 |.arr len _,.dptr u x off=>match Nat.blt 0 esz with
  |true=>bif decide (0≤j)&&decide (j<(len:Int))then κ (.dptr u x (off+j.toNat*esz))else none
  |false=>none
 |.arr len _,.ptr n i sz off=>match st.h n with
  |.row _ u l=>match Nat.beq esz u.n with
   |true=>match i,Nat.beq off 0 with
    |0,true=>bif decide (0≤j)&&decide (j<(len:Int))then κ (.ptr n j.toNat u.n 0)else none
    |_,_=>none
   |false=>match Nat.blt 0 esz with
    |true=>bif decide (0≤j)&&decide (j<(len:Int))then κ (.ptr n i sz (off+j.toNat*esz))else none
    |false=>none
  |.ro _ u l=>match Nat.beq esz u.n with
   |true=>match i,Nat.beq off 0 with
    |0,true=>bif decide (0≤j)&&decide (j<(len:Int))then κ (.ptr n j.toNat u.n 0)else none
    |_,_=>none
   |false=>match Nat.blt 0 esz with
    |true=>bif decide (0≤j)&&decide (j<(len:Int))then κ (.ptr n i sz (off+j.toNat*esz))else none
    |false=>none
  |.box _ _=>match i,Nat.blt 0 esz with
   |0,true=>bif decide (0≤j)&&decide (j<(len:Int))then κ (.ptr n 0 0 (off+j.toNat*esz))else none
   |_,_=>none
  |_=>none
 |_,_=>none
def nk :Nat->Nat->Int->(Nat->Option ρ)->Option ρ|0,_,_,_=>none|m+1,i,j,κ=>bif decide (j=(i:Int))then κ i else nk m (i+1) j κ
def jz (st:St)(ti:TI)(a:C):Option (Nat×Nat×Nat):=match ti.k,a with
 |.arr len _,.ptr n i _ off=>match i,st.h n with
  |0,.box _ _=>some (n,len,off)
  |_,_=>none
 |_,_=>none
def bU (cfg:Cfg):TK->Nat
 |.arr _ e=>match cfg.ty e with
  |some i=>i.size
  |none=>0
 |.sl e=>match cfg.ty e with
  |some i=>i.size
  |none=>0
 |_=>0
def fieldsOf (cfg:Cfg):TK->Option (List (Nat×Nat))
 |.struct fs=>some fs
 |.arr n e=>match cfg.ty e with
  |some i=>some ((List.range n).map λj=>(j*i.size,e))
  |none=>none
 |_=>none
def sub {α:Type}(xs:List α)(l h:Int):List α:=(xs.take h.toNat).drop l.toNat
def iH (st:St)(i:TI)(esz:Nat)(trunc:Bool)(dst:Nat)(x:C)(lo hi:Option Int)(κ:V->St->Option ρ):Option ρ:=
 match i.k,x with
 |.str,.str s=>
  bif decide (0≤lo.getD 0)&&decide (lo.getD 0≤hi.getD s.size)&&decide (hi.getD s.size≤(s.size:Int))then κ (.v (.c (.str (s.extract (lo.getD 0).toNat (hi.getD s.size).toNat)))) st else none
 |.sl _,.sl u xs=>match Nat.beq esz u.n&&Nat.blt 0 u.n with
  |true=>bif decide (0≤lo.getD 0)&&decide (lo.getD 0≤hi.getD xs.length)&&decide (hi.getD xs.length≤(xs.length:Int))then κ (.v (.c (.sl u (sub xs (lo.getD 0) (hi.getD xs.length))))) st else none
  |false=>none
 |.sl _,.row n=>match st.h n with
  |.row e u xs=>match Nat.beq esz u.n with
   |true=>
    bif trunc then match lo,hi with
     |none,some h=>bif decide (0≤h)&&decide (h≤(xs.length:Int))then newRow {st with h:=upd st.h n .gone} dst e u (xs.take h.toNat) (κ (.v (.c (.row dst))))else none
     |_,_=>none
    else
     bif decide (0≤lo.getD 0)&&decide (lo.getD 0≤hi.getD xs.length)&&decide (hi.getD xs.length≤(xs.length:Int))then κ (.v (.c (.sl u (sub xs (lo.getD 0) (hi.getD xs.length))))) {st with h:=upd st.h n (.ro e u xs)}else none
   |false=>none
  |.ro _ u xs=>match Nat.beq esz u.n with
   |true=>bif decide (0≤lo.getD 0)&&decide (lo.getD 0≤hi.getD xs.length)&&decide (hi.getD xs.length≤(xs.length:Int))then κ (.v (.c (.sl u (sub xs (lo.getD 0) (hi.getD xs.length))))) st else none
   |false=>none
  |_=>none
 |.sl _,.nils=>match Nat.blt 0 esz with
  |true=>bif decide (0≤lo.getD 0)&&decide (lo.getD 0≤hi.getD 0)&&decide (hi.getD 0≤0)then κ (.v (.c .nils)) st else none
  |false=>none
 |_,_=>none
def jH (st:St)(i:TI)(esz:Nat)(x:C)(lo hi:Option Int)(κ:C->Option ρ):Option ρ:=
 match i.k,x,lo,hi with
 |.sl _,.row n,some l,none=>match st.h n with
  |.row _ u xs=>match Nat.beq esz u.n with
   |true=>bif decide (0≤l)&&decide (l≤(xs.length:Int))then κ (.tail n l.toNat u.n)else none
   |false=>none
  |_=>none
 |_,_,_,_=>none
def hZ {α:Type}(l:List α)(i:Nat)(z:α):List α:=l.take i++List.replicate (l.length-i) z
def gT (cfg:Cfg)(st:St)(i:TI)(x:C)(κ:V->St->Option ρ):Option ρ:=
 match i.k,x with
 |.sl e,.tail n j sz=>match cfg.ty e,st.h n with
  |some ie,.row e' u l=>match Nat.beq sz u.n,(if u=ie.u then true else false),Nat.beq ie.zero.length ie.size with
   |true,true,true=>match datum st.h u ie.zero with
    |some z=>κ (.tup []) {st with h:=upd st.h n (.row e' u (hZ l j z))}
    |none=>none
   |_,_,_=>none
  |_,_=>none
 |_,_=>none
def ja (st:St):Option Operand->Option (Option Int)
 |none=>some none
 |some x=>match ay st x with
  |.v (.c (.int _ n))=>some (some n)
  |_=>none
def Oper.name (o:Oper):Nat:=o.dst.getD 0
def lH (l:List Int):ByteArray:=l.foldl (λr n=>r.push (UInt8.ofNat n.toNat)) ByteArray.empty
def conv (cfg:Cfg)(st:St)(i j:TI)(c:C)(κ:C->Option ρ):Option ρ:=
 match c with
 |.int _ n=>match j.k with
  |.int k=>κ (.int k (k.wrap n))
  |_=>none
 |c=>match j.k,i.k with
  |.str,.sl e=>match cfg.ty e with
   |some ie=>match ie.k with
    |.int .u8=>match dv st.h (.int .u8) c with
     |some l=>κ (.str (lH l))
     |none=>none
    |_=>none
   |none=>none
  |_,_=>none
def dW (cfg:Cfg)(st:St)(dst t':Nat)(i:TI)(s x:C)(κ:V->St->Option ρ):Option ρ:=
 match s,x,i.k,cfg.ty t' with
 |.nils,.int _ n,.sl e,some it=>match it.k,cfg.ty e with
  |.int .i64,some ie=>match datum st.h ie.u ie.zero with
   |some z=>bif decide (0≤n)&&decide (n*ie.bytes≤roomy)then newRow st dst e ie.u (List.replicate n.toNat z) (κ (.v (.c (.row dst))))else none
   |none=>none
  |_,_=>none
 |_,_,_,_=>none
def aS (cfg:Cfg)(st:St)(o:Oper)(κ:V->St->Option ρ):Option ρ:=
 match o.op with
 |.move x|.assign x=>κ (ay st x) st
 |.pick c a b=>match ay st c with
  |.v (.c (.bool t))=>bif t then κ (ay st a) st else κ (ay st b) st
  |_=>none
 |.alloc t=>match cfg.ty t with
  |some i=>match cfg.TU (Oper.name o) i.k with
   |.arr n e=>match cfg.ty e with
    |some ie=>match dY st.h ie.u n i.zero with
     |some l=>bif Nat.ble n 16777216&&Nat.beq i.zero.length i.size then newRow st (Oper.name o) t ie.u l (κ (.v (.c (.ptr (Oper.name o) 0 ie.u.n 0))))else none
     |none=>none
    |none=>none
   |_=>bif Nat.beq i.zero.length i.size then dZ st (Oper.name o) (.box t i.zero) (κ (.v (.c (.ptr (Oper.name o) 0 0 0))))else none
  |none=>none
 |.box t x=>match cfg.ty t,(ay st x).cells with
  |some i,some cs=>match i.k with
   |.arr n e=>match cfg.ty e with
    |some ie=>match dY st.h ie.u n cs with
     |some l=>bif Nat.ble n 16777216 then newRow {st with h:=aZ st.h (bn cs)} (Oper.name o) t ie.u l (κ (.v (.c (.ptr (Oper.name o) 0 ie.u.n 0))))else none
     |none=>none
    |none=>none
   |_=>dZ st (Oper.name o) (.box t cs) (κ (.v (.c (.ptr (Oper.name o) 0 0 0))))
  |_,_=>none
 |.build t parts=>match cfg.ty t with
  |some i=>match fieldsOf cfg i.k with
   |some fs=>match iY fs (λt=>(cfg.ty t).map (·.size)) (parts.toList.map λp=>(p.1,ay st p.2)) i.zero,Nat.beq i.zero.length i.size with
    |some cs,true=>κ (.v (.agg cs)) st
    |_,_=>none
   |none=>none
  |none=>none
 |.buildSlice t len parts=>match cfg.ty t with
  |some i=>match i.k with
   |.sl e=>match cfg.ty e with
    |some ie=>match assoc cfg.shapes (Oper.name o)with
     |some sh=>match dG st.h sh 0 (parts.toList.map λp=>(p.1,ay st p.2))with
      |some (l,ns)=>match distinct ns,(if sh.u=ie.u then true else false)with
       |true,true=>bif Nat.beq l.length len&&Nat.ble (len*ie.size) (2^24)then gY {st with h:=cC st.h ns} (Oper.name o) e sh l (κ (.v (.c (.row (Oper.name o)))))else none
       |_,_=>none
      |none=>none
     |none=>match datum st.h ie.u ie.zero with
      |some z=>match dN st.h (parts.toList.map λp=>(p.1,ay st p.2)) (List.replicate len z)with
       |some l=>bif Nat.ble (len*ie.size) (2^24)then newRow {st with h:=aZ st.h (eA (parts.toList.map λp=>(p.1,ay st p.2)))} (Oper.name o) e ie.u l (κ (.v (.c (.row (Oper.name o)))))else none
       |none=>none
      |none=>none
    |none=>none
   |_=>none
  |none=>none
 |.load t a=>match cfg.ty t,(ay st a).one with
  |some i,some a=>bif cfg.opens.any (Nat.beq (Oper.name o))then mB st i a (Oper.name o) κ else load st i a λv=>κ v st
  |_,_=>none
 |.store t a x=>match cfg.ty t,(ay st a).one with
  |some i,some a=>store cfg.whole st i a (ay st x) λst=>κ .und st
  |_,_=>none
 |.nilCheck x=>match ay st x with
  |.v (.c (.ptr n i sz off))=>κ (.v (.c (.ptr n i sz off))) st
  |.v (.c (.dptr u x off))=>κ (.v (.c (.dptr u x off))) st
  |.v (.c (.fn f))=>κ (.v (.c (.fn f))) st
  |.v (.c (.cap g c))=>κ (.v (.c (.cap g c))) st
  |_=>none
 |.binOp op t x y _=>bin cfg.tt t op (ay st x) (ay st y) λc=>κ (.v (.c c)) st
 |.unOp op _ x=>un op (ay st x) λc=>κ (.v (.c c)) st
 |.convert s d x=>match cfg.ty s,cfg.ty d,ay st x with
  |some i,some j,.v (.c c)=>conv cfg st i j c λc=>κ (.v (.c c)) st
  |_,_,_=>none
 |.fieldAddr s x f=>match cfg.ty s,(ay st x).one with
  |some i,some a=>match i.k with
   |.struct fs=>match fs[f]?,a with
    |some (off,_),.ptr n j sz o=>κ (.v (.c (.ptr n j sz (o+off)))) st
    |some (off,_),.dptr u x o=>κ (.v (.c (.dptr u x (o+off)))) st
    |_,_=>none
   |_=>none
  |_,_=>none
 |.field s x f=>match cfg.ty s,ay st x with
  |some i,.v (.agg cs)=>match i.k with
   |.struct fs=>match fs[f]? with
    |some (off,t)=>match cfg.ty t with
     |some ti=>match jx off ti.size cs with
      |some cs=>match asV ti.agg cs with
       |some v=>κ v st
       |none=>none
      |none=>none
     |none=>none
    |none=>none
   |_=>none
  |_,_=>none
 |.indexAddr t x i=>match cfg.ty t,(ay st x).one,ay st i with
  |some ti,some a,.v (.c (.int _ j))=>match jz st ti a with
   |some (n,len,off)=>match Nat.blt 0 (bU cfg ti.k)with
    |true=>nk len 0 j λq=>κ (.v (.c (.ptr n 0 0 (off+q*bU cfg ti.k)))) st
    |false=>none
   |none=>indexAddr st ti (bU cfg ti.k) a.pO j λc=>κ (.v (.c c)) st
  |_,_,_=>none
 |.index t x i=>match cfg.ty t,ay st x,ay st i with
  |some ti,.v (.c (.str s)),.v (.c (.int _ j))=>match ti.k with
   |.str=>(if 0≤j then s[j.toNat]? else none).bind λb=>κ (.v (.c (.int .u8 b.toNat))) st
   |_=>none
  |some ti,.v (.agg cs),.v (.c (.int _ j))=>match ti.k with
   |.arr len e=>nk len 0 j λq=>match qm cfg.tt e cs (q*bU cfg ti.k)with
    |some w=>κ (.v w) st
    |none=>none
   |_=>none
  |_,_,_=>none
 |.slice t x lo hi none=>match cfg.ty t,(ay st x).one,ja st lo,ja st hi with
  |some i,some c,some lo,some hi=>bif cfg.tails.any (Nat.beq (Oper.name o))then jH st i (bU cfg i.k) c lo hi (λc=>κ (.v (.c c)) st)else iH st i (bU cfg i.k) (cfg.trunc.any (Nat.beq (Oper.name o))) (Oper.name o) c.pO lo hi κ
  |_,_,_,_=>none
 |.makeMap t none=>match cfg.ty t with
  |some i=>match i.k with
   |.map k e=>match cfg.ty k,cfg.ty e with
    |some ik,some ie=>match ik.u.flat with
     |true=>dZ st (Oper.name o) (cfg.uq (Oper.name o) t ik ie) (κ (.v (.c (.mapr false (Oper.name o)))))
     |false=>none
    |_,_=>none
   |_=>none
  |none=>none
 |.lookup t x key ok=>match cfg.ty t with
  |some i=>match i.k with
   |.map k e=>match cfg.ty k,cfg.ty e with
    |some ik,some ie=>match Nat.beq ie.zero.length ie.size with
     |true=>bif cfg.takes.any (Nat.beq (Oper.name o))&& !ok then jU st ik ie (iN cfg.tt k ik.u) t (Oper.name o) (ay st x) (ay st key) κ
      else bif cfg.melts.any (Nat.beq (Oper.name o))then mN st (ay st x) λst'=>fW st' ik ie (datum (λ_=>.free) ie.u ie.zero) (iN cfg.tt k ik.u) t (ay st x) (ay st key) ok λv=>κ v st'
      else fW st ik ie (datum (λ_=>.free) ie.u ie.zero) (iN cfg.tt k ik.u) t (ay st x) (ay st key) ok λv=>κ v st
     |false=>none
    |_,_=>none
   |_=>none
  |none=>none
 |.mapUpdate t x key val=>match cfg.ty t with
  |some i=>match i.k with
   |.map k e=>match cfg.ty k,cfg.ty e with
    |some ik,some ie=>bif sL st (ay st x)then gC st ik (iN cfg.tt k ik.u) t (ay st x) (ay st key) (ay st val) λst=>κ .und st
       else fH st ik ie (iN cfg.tt k ik.u) t (ay st x) (ay st key) (ay st val) λst=>κ .und st
    |_,_=>none
   |_=>none
  |none=>none
 |.mapEntry t x key=>match cfg.ty t with
  |some i=>match i.k with
   |.map k e=>match cfg.ty k,cfg.ty e with
    |some ik,some ie=>match Nat.beq ie.zero.length ie.size with
     |true=>iU st ik ie (datum (λ_=>.free) ie.u ie.zero) (iN cfg.tt k ik.u) t (ay st x) (ay st key) κ
     |false=>none
    |_,_=>none
   |_=>none
  |none=>none
 |.entryStore t x stamp val=>match cfg.ty t with
  |some i=>match i.k with
   |.map _ e=>match cfg.ty e with
    |some ie=>fv st ie t (ay st x) (ay st stamp) (ay st val) λst=>κ .und st
    |none=>none
   |_=>none
  |none=>none
 |.extract x i=>match ay st x with
  |.tup ws=>match ws[i]? with
   |some w=>κ (.v w) st
   |none=>none
  |_=>none
 |.makeFunc (.func f) first captured=>match first.toList,kW (.fn f) (captured.toList.map (ay st))with
  |[],some c=>κ (.v (.c c)) st
  |_,_=>none
 |.makeSlice t l c=>match cfg.ty t,ay st l,ay st c with
  |some i,.v (.c (.int _ n)),.v (.c (.int _ m))=>match i.k with
   |.sl e=>match cfg.ty e with
    |some ie=>match assoc cfg.shapes (Oper.name o)with
     |some sh=>match cr st.h sh ie.zero with
      |some (z,[],[])=>match(if sh.u=ie.u then true else false)with
       |true=>bif decide (n=m)&&decide (0≤n)&&decide (n*ie.bytes≤roomy)then
          gY st (Oper.name o) e sh (List.replicate n.toNat z) (κ (.v (.c (.row (Oper.name o)))))
        else none
       |false=>none
      |_=>none
     |none=>match datum st.h ie.u ie.zero with
      |some z=>bif decide (n=m)&&decide (0≤n)&&decide (n*ie.bytes≤roomy)then
         newRow st (Oper.name o) e ie.u (List.replicate n.toNat z) (κ (.v (.c (.row (Oper.name o)))))
       else none
      |none=>none
    |none=>none
   |_=>none
  |_,_,_=>none
 |.call c=>match c.callee with
  |.builtin .len=>match c.args.toList.map (ay st),c.argTypes.toList with
   |[.v (.c x)],[t]=>match cfg.ty t with
    |some i=>match lenOf st i x with
     |some n=>κ (.v (.c (.int .i64 n))) st
     |none=>none
    |none=>none
   |_,_=>none
  |.builtin .cap=>match c.args.toList.map (ay st),c.argTypes.toList with
   |[.v (.c .nils)],[t]=>match cfg.ty t with
    |some i=>match i.k with
     |.sl _=>κ (.v (.c (.int .i64 0))) st
     |_=>none
    |none=>none
   |_,_=>none
  |.builtin .append=>match c.args.toList.map (ay st),c.argTypes.toList with
   |[.v (.c s),.v (.c x)],[t,t']=>match cfg.ty t,Nat.beq t t' with
    |some i,true=>match i.k with
     |.sl e=>match cfg.ty e with
      |some ie=>match assoc cfg.shapes (Oper.name o)with
       |some sh=>fu st (Oper.name o) e sh ie s x κ
       |none=>append st (Oper.name o) e ie s x κ
      |none=>none
     |_=>none
    |some i,false=>dW cfg st (Oper.name o) t' i s x κ
    |_,_=>none
   |_,_=>none
  |.builtin .max=>match c.args.toList.map (ay st)with
   |.v (.c x)::r=>match jC true x r with
    |some c=>κ (.v (.c c)) st
    |none=>none
   |_=>none
  |.builtin .min=>match c.args.toList.map (ay st)with
   |.v (.c x)::r=>match jC false x r with
    |some c=>κ (.v (.c c)) st
    |none=>none
   |_=>none
  |.builtin .clear=>match c.args.toList.map (ay st),c.argTypes.toList with
   |[.v (.c x)],[t]=>match cfg.ty t with
    |some i=>gT cfg st i x κ
    |none=>none
   |_,_=>none
  |.builtin _=>none
  |.invoke .. =>none
  |.value f=>match(ay st f).one with
   |some g=>match pI g []with
    |some (n,caps)=>gf cfg.k st (Oper.name o) n (c.args.toList.map (ay st)++caps) κ cfg.fns
    |none=>none
   |none=>none
 |_=>none
def put (cfg:Cfg)(st:St)(d:Option Nat)(v:V)(κ:St->Option ρ):Option ρ:=
 match d with
 |some d=>match Nat.blt d cfg.n with
  |true=>κ {st with t:=upd st.t d v}
  |false=>none
 |none=>κ st
def kZ (cfg:Cfg)(ops:List Oper):List Oper->St->(St->Option ρ)->Option ρ
 |[],st,κ=>κ st
 |o::r,st,κ=>
  match o.guard with
  |none=>aS cfg st o λv st=>put cfg st o.dst v λst=>kZ cfg ops r st κ
  |some (j,want)=>match(ops[j]?).bind (·.dst)with
   |none=>none
   |some d=>match st.t d with
    |.v (.c (.bool b))=>
     bif b then
      (match want with
       |true=>aS cfg {st with t:=upd st.t d (.v (.c (.bool true)))} o λv st=>put cfg st o.dst v λst=>kZ cfg ops r st κ
       |false=>put cfg {st with t:=upd st.t d (.v (.c (.bool true)))} o.dst .und λst=>kZ cfg ops r st κ)
     else
      (match want with
       |true=>put cfg {st with t:=upd st.t d (.v (.c (.bool false)))} o.dst .und λst=>kZ cfg ops r st κ
       |false=>aS cfg {st with t:=upd st.t d (.v (.c (.bool false)))} o λv st=>put cfg st o.dst v λst=>kZ cfg ops r st κ)
    |.und=>put cfg st o.dst .und λst=>kZ cfg ops r st κ
    |_=>none
def gH (st:St)(dst f:Nat)(args:List V):List af->List Nat
 |[]=>[]
 |e::r=>match Nat.beq e.id f with
  |true=>match e.ar.ext ⟨ofList args,st.h⟩,Nat.beq args.length e.ar.temps.length with
   |some (_,q),true=>bP q.map++((match e.res.flat with|true=>[]|false=>q.frz)++(dd q.map dst e.res.blocks 0).map (·.2))
   |_,_=>gH st dst f args r
  |false=>gH st dst f args r
def rowsOf :List V->List Nat
 |[]=>[]
 |.v w::r=>bn w.cells++rowsOf r
 |_::r=>rowsOf r
def bW (cfg:Cfg)(st:St)(o:Oper):List Nat:=
 match o.op with
 |.alloc _|.makeSlice .. |.makeMap .. =>[Oper.name o]
 |.mapUpdate _ x _ z=>match(ay st x).one with
  |some (.mapr _ n)=>n::(match sL st (ay st x)with|true=>rowsOf [ay st z]|false=>[])
  |_=>[]
 |.mapEntry _ x _|.entryStore _ x _ _=>match(ay st x).one with
  |some (.mapr _ n)=>[n]
  |_=>[]
 |.lookup _ x _ ok=>match cfg.takes.any (Nat.beq (Oper.name o))&& !ok,cfg.melts.any (Nat.beq (Oper.name o)),(ay st x).one with
  |true,_,some (.mapr _ n)=>[n,Oper.name o]
  |_,true,some (.mapr _ n)=>[n]
  |_,_,_=>[]
 |.box t x=>Oper.name o::(match cfg.ty t,(ay st x).cells with
  |some i,some cs=>(match i.k with|.arr .. =>bn cs|_=>[])
  |_,_=>[])
 |.buildSlice _ _ parts=>Oper.name o::eA (parts.toList.map λp=>(p.1,ay st p.2))
 |.store _ a x=>match(ay st a).one,(ay st x).cells with
  |some (.ptr n ..),some cs=>n::(match st.h n with|.row .. =>bn cs|_=>[])
  |_,_=>[]
 |.slice _ x _ _ _=>match cfg.tails.any (Nat.beq (Oper.name o)),(ay st x).one with
  |false,some (.row n)=>(match st.h n with
   |.row .. =>(match cfg.trunc.any (Nat.beq (Oper.name o))with|true=>[n,Oper.name o]|false=>[n])
   |_=>[])
  |_,_=>[]
 |.call c=>match c.callee with
  |.builtin .append=>match assoc cfg.shapes (Oper.name o)with
   |some _=>Oper.name o::rowsOf (c.args.toList.map (ay st))
   |none=>match c.args.toList.map (ay st)with
    |.v (.c (.row n))::_=>[n,Oper.name o]
    |_=>[Oper.name o]
  |.builtin .clear=>match c.args.toList.map (ay st)with
   |.v (.c (.tail n ..))::_=>[n]
   |_=>[]
  |.value f=>match(ay st f).one with
   |some g=>match pI g []with
    |some (n,caps)=>gH st (Oper.name o) n (c.args.toList.map (ay st)++caps) cfg.fns
    |none=>[]
   |none=>[]
  |_=>[]
 |_=>[]
def aaG (o:Oper):Nat:=match o.op with
 |.alloc _|.box .. |.buildSlice .. |.makeSlice .. |.makeMap .. |.slice .. |.lookup .. =>1
 |.call _=>2
 |_=>0
def OO (d n:Nat):Bool:=Nat.ble (2000000+d*100) n&&Nat.blt n (2000000+d*100+100)
def owns (o:Oper)(n:Nat):Bool:=match aaG o with
 |1=>Nat.beq n (Oper.name o)
 |2=>Nat.beq n (Oper.name o)||OO (Oper.name o) n
 |_=>false
def declared (tch:List (Nat×List Nat))(i n:Nat):Bool:=tch.any λp=>Nat.beq p.1 i&&p.2.any (Nat.beq n)
def jc (tch:List (Nat×List Nat))(o:Oper)(i n:Nat):Bool:=(o.dst.isSome&&owns o n)||declared tch i n
def union :List Nat->List Nat->List Nat|[],l=>l|n::r,l=>bif l.any (Nat.beq n)then union r l else n::union r l
def e8 (o:Oper):List Nat:=(o.after.toList.filter (Region.binds .any)).map (·.on)
def lG :List Oper->List (List Nat)->List (List Nat)
 |[],acc=>acc
 |o::r,acc=>lG r (acc++[(e8 o).foldr (λj l=>union (j::(acc[j]?).getD []) l) []])
def cH (bs:List (List Nat))(i:Nat):List Nat:=(bs[i]?).getD []
def eD (ops:List Oper)(j:Nat):Option Nat:=(ops[j]?).bind (·.dst)
def loose (bs:List (List Nat))(i j:Nat):Bool:= !(Nat.beq i j)&& !((cH bs i).any (Nat.beq j))&& !((cH bs j).any (Nat.beq i))
def kT (bs:List (List Nat))(i:Nat):List Oper->Nat->Nat->Bool
 |[],_,_=>false
 |o::r,j,n=>(match o.dst with|some d=>Nat.beq d n&&loose bs i j|none=>false)||kT bs i r (j+1) n
def gd (bs:List (List Nat))(tch:List (Nat×List Nat))(i:Nat):List Oper->Nat->Nat->Bool
 |[],_,_=>false
 |o::r,j,n=>(jc tch o j n&&loose bs i j)||gd bs tch i r (j+1) n
def qo (bs:List (List Nat))(tch:List (Nat×List Nat))(ops:List Oper)(i:Nat)(st:St):St:=⟨λn=>bif kT bs i ops 0 n then .bad else st.t n,λn=>bif gd bs tch i ops 0 n then .gone else st.h n⟩
def fQ :List (Option Nat)->Bool
 |[]=>true
 |none::r=>fQ r
 |some n::r=> !(r.any λm=>match m with|some m=>Nat.beq n m|none=>false)&&fQ r
def lF :List Oper->Nat->Bool
 |[],_=>true
 |o::r,i=>(e8 o).all (λj=>Nat.blt j i)&&lF r (i+1)
def TC (o:Oper):Bool:=match o.op with
 |.select .. =>true
 |_=>false
def zU (bs:List (List Nat))(tch:List (Nat×List Nat))(ops:List Oper):Bool:=
 tch.all λp=>p.2.all λn=> !(bH n)&&(List.range ops.length).all λj=> !(loose bs p.1 j)|| !(match ops[j]? with
  |some o=>jc tch o j n
  |none=>false)
def Ee (bs:List (List Nat))(tch:List (Nat×List Nat))(ops:List Oper):Bool:=
 lF ops 0&&fQ (ops.map (·.dst))&&ops.all (λo=>(match o.dst with|some d=>Nat.blt d 10000|none=>true)&& !TC o)&&zU bs tch ops
def V.fE :V->Bool
 |.bad=>true
 |_=>false
def qT (st:St)(o:Oper):Bool:=match o.op with
 |.call c=>c.args.toList.all λx=> !(ay st x).fE
 |_=>true
def sE (cfg:Cfg)(bs:List (List Nat))(tch:List (Nat×List Nat))(ops:List Oper):Nat->List Oper->St->(St->Option ρ)->Option ρ
 |_,[],st,κ=>κ st
 |i,o::r,st,κ=>
  let run:St->Option ρ:=λst=>
   aS cfg (qo bs tch ops i st) o λv st'=>match V.fE v,qT (qo bs tch ops i st) o&&(bW cfg (qo bs tch ops i st) o).all (jc tch o i)with
    |false,true=>put cfg ⟨st.t,λn=>bif jc tch o i n then st'.h n else st.h n⟩ o.dst v λst=>sE cfg bs tch ops (i+1) r st κ
    |_,_=>none
  let skip:St->Option ρ:=λst=>put cfg st o.dst .und λst=>sE cfg bs tch ops (i+1) r st κ
  match o.guard with
  |none=>run st
  |some (j,want)=>match eD ops j,(cH bs i).any (Nat.beq j)with
   |some d,true=>match st.t d with
    |.v (.c (.bool b))=>
     bif b then
      (match want with
       |true=>run {st with t:=upd st.t d (.v (.c (.bool true)))}
       |false=>skip {st with t:=upd st.t d (.v (.c (.bool true)))})
     else
      (match want with
       |true=>skip {st with t:=upd st.t d (.v (.c (.bool false)))}
       |false=>run {st with t:=upd st.t d (.v (.c (.bool false)))})
    |.und=>skip st
    |_=>none
   |_,_=>none
def Hg (cfg:Cfg)(bs:List (List Nat))(tch:List (Nat×List Nat))(ops:List Oper)(st:St)(κ:St->Option ρ):Option ρ:=
 match Ee bs tch ops with
 |true=>sE cfg bs tch ops 0 ops st κ
 |false=>none
def Eo (cfg:Cfg)(id:Nat)(ops:List Oper)(st:St)(κ:St->Option ρ):Option ρ:=Hg {cfg with opens:=[],whole:=false} (lG ops []) ((assoc cfg.touch id).getD []) ops st κ
inductive Out where
 |normal|exit (i:Nat)|ret
def Out.same :Out->Out->Bool
 |.normal,.normal=>true
 |.exit i,.exit j=>Nat.beq i j
 |.ret,.ret=>true
 |_,_=>false
def fk :Code->Option Nat
 |.region i _ _=>some i
 |.seq a _=>fk a
 |.block _ a=>fk a
 |.loop a=>fk a
 |_=>none
def lead :Code->Nat
 |.seq a _=>lead a
 |.block _ a=>lead a
 |.loop a=>lead a+1
 |_=>0
def rT (b:Code):Option Nat:=match fk b with
 |some i=>some (i+100000*lead b)
 |none=>none
@[reducible] def NxT (ρ : Type) : List (Out × Spec) → Type
 | [] => Unit
 | (_, s) :: r => (s.V → Option ρ) × NxT ρ r
structure Cut where
 sp:Spec
 outs:List (Out×Spec)
 F:(ρ:Type)->Nat->sp.V->NxT ρ outs->Option ρ
def EM (aB:Nat->B)(κ:Out->St->Option ρ):(outs:List (Out×Spec))->NxT ρ outs
 |[]=>()
 |(o,s)::r=>(λv=>κ o (s.st aB v),EM aB κ r)
def yi :(outs:List (Out×Spec))->NxT ρ outs->Out->St->Option ρ
 |[],_,_,_=>none
 |(o,s)::r,nx,o',st=>bif o.same o' then(match s.own st with|some v=>nx.1 v|none=>none)else yi r nx.2 o' st
structure Full extends Cfg where
 cuts:List (Nat×Cut)
 joins:List (Nat×Cut)
def enter (aB:Nat->B)(k:Nat)(ct:Cut)(st:St)(κ:Out->St->Option ρ):Option ρ:=
 match ct.sp.own st with
 |some v=>ct.F ρ k v (EM aB κ ct.outs)
 |none=>none
def fJ (cfg:Cfg)(id:Nat)(st:St):St:=match assoc cfg.fJ id with
 |some ns=>{st with h:=xI st.h ns}
 |none=>st
def evC (cfg:Full):Code->St->(Out->St->Option ρ)->Option ρ
 |.skip,st,κ=>κ .normal st
 |.region id ops false,st,κ=>kZ cfg.toCfg ops.toList ops.toList st λst=>κ .normal (fJ cfg.toCfg id st)
 |.region id ops true,st,κ=>Eo cfg.toCfg id ops.toList st λst=>κ .normal (fJ cfg.toCfg id st)
 |.seq a b,st,κ=>evC cfg a st λo st=>match o with
  |.normal=>match(fk b).bind (assoc cfg.joins)with
   |some ct=>enter cfg.aB cfg.k ct st κ
   |none=>evC cfg b st κ
  |o=>κ o st
 |.cond c x y,st,κ=>match ay st c with
  |.v (.c (.bool b))=>bif b then evC cfg x st κ else evC cfg y st κ
  |_=>none
 |.block i b,st,κ=>evC cfg b st λo st=>match o with
  |.exit j=>bif Nat.beq j i then κ .normal st else κ (.exit j) st
  |o=>κ o st
 |.loop b,st,κ=>match(rT b).bind (assoc cfg.cuts)with
  |some ct=>enter cfg.aB cfg.k ct st κ
  |none=>none
 |.exit i,st,κ=>κ (.exit i) st
 |.ret,st,κ=>κ .ret st
 |_,_,_=>none
def mD (cfg:Cfg)(st:St):List ResultVar->(List V->Option ρ)->Option ρ
 |[],κ=>κ []
 |.tmp t::r,κ=>mD cfg st r λvs=>κ (st.t t::vs)
 |.cell a t::r,κ=>match cfg.ty t,(st.t a).one with
  |some i,some a=>load st i a λv=>mD cfg st r λvs=>κ (v::vs)
  |_,_=>none
def sM :List (Nat×VK)->Nat->Bool
 |[],_=>true
 |(i,_)::r,n=>Nat.beq i n&&sM r (n+1)
def zm (cfg:Full)(fn:Func)(ar res:Spec)(st:St)(κ:res.V->Option ρ):Option ρ:=
 match fn.body,sM res.temps 0&&Nat.beq res.temps.length fn.results.size&&ar.blocks.all (λb=>gB b.1)&&sM ar.temps 0&&Nat.beq cfg.n fn.ntmps&&Nat.ble ar.temps.length fn.ntmps with
 |some c,true=>evC cfg c st λo st=>match o with
  |.exit _=>none
  |_=>mD cfg.toCfg st fn.results.toList λvs=>(res.own ⟨ofList vs,st.h⟩).bind κ
 |_,_=>none
end Go.Proofs.YtlkkaielmdlefaaGreatDoor.R1
namespace Go.Proofs.YtlkkaielmdlefaaGreatDoor.R1
def aW {α β:Type}(r:α->β->Prop):List α->List β->Prop
 |[],[]=>True
 |a::l,b::m=>r a b/\aW r l m
 |_,_=>False
theorem aW.length {α β:Type}{r:α->β->Prop}:∀{l:List α}{m:List β},aW r l m->l.length=m.length
 |[],[],_=>rfl
 |_::l,_::m,h=>by simp[aW.length h.2]
 |[],_::_,h=>h.elim
 |_::_,[],h=>h.elim
theorem aW.mono {α β:Type}{r r':α->β->Prop}(hr:∀a b,r a b->r' a b):∀{l:List α}{m:List β},aW r l m->aW r' l m
 |[],[],_=>trivial
 |_::_,_::_,h=>⟨hr _ _ h.1,aW.mono hr h.2⟩
 |[],_::_,h=>h.elim
 |_::_,[],h=>h.elim
theorem aW.append {α β:Type}{r:α->β->Prop}:∀{l:List α}{m:List β}{l':List α}{m':List β},aW r l m->aW r l' m'->aW r (l++l') (m++m')
 |[],[],_,_,_,h=>h
 |_::_,_::_,_,_,h,h'=>⟨h.1,aW.append h.2 h'⟩
 |[],_::_,_,_,h,_=>h.elim
 |_::_,[],_,_,h,_=>h.elim
theorem aW.get {α β:Type}{r:α->β->Prop}:∀{l:List α}{m:List β},aW r l m->∀{i:Nat}{a:α},l[i]? =some a->∃b,m[i]? =some b/\r a b
 |[],[],_,i,a,h=>by simp at h
 |_::l,b::m,hh,0,a,h=>by simp at h;subst h;exact⟨b,rfl,hh.1⟩
 |_::l,b::m,hh,i+1,a,h=>by simp at h;obtain⟨c,hc,hr⟩:=aW.get hh.2 h;exact⟨c,by simpa using hc,hr⟩
 |[],_::_,h,_,_,_=>h.elim
 |_::_,[],h,_,_,_=>h.elim
theorem aW.take {α β:Type}{r:α->β->Prop}:∀{l:List α}{m:List β}(n:Nat),aW r l m->aW r (l.take n) (m.take n)
 |[],[],n,_=>by simp[aW]
 |_::_,_::_,0,_=>by simp[aW]
 |_::_,_::_,n+1,h=>⟨h.1,aW.take n h.2⟩
 |[],_::_,_,h=>h.elim
 |_::_,[],_,h=>h.elim
theorem aW.drop {α β:Type}{r:α->β->Prop}:∀{l:List α}{m:List β}(n:Nat),aW r l m->aW r (l.drop n) (m.drop n)
 |[],[],n,_=>by simp[aW]
 |_::_,_::_,0,h=>h
 |_::_,_::_,n+1,h=>aW.drop n h.2
 |[],_::_,_,h=>h.elim
 |_::_,[],_,h=>h.elim
theorem aW.split {α β:Type}{r:α->β->Prop}:∀{l l':List α}{m:List β},aW r (l++l') m->∃m1 m2,m=m1++m2/\aW r l m1/\aW r l' m2
 |[],l',m,h=>⟨[],m,rfl,trivial,h⟩
 |_::l,l',b::m,h=>by
  obtain⟨m1,m2,rfl,h1,h2⟩:=aW.split h.2;exact⟨b::m1,m2,rfl,⟨h.1,h1⟩,h2⟩
 |_::_,_,[],h=>h.elim
def Mem (w:World)(a:Addr)(vs:List Value):Prop:=∀j v,vs[j]? =some v->w.cell? (a.add j)=some v
theorem p6 (a:Addr)(n:Nat):(a.add n).block=a.block:=by unfold Addr.add;split<;>rfl
theorem add_add (a:Addr)(n m:Nat):(a.add n).add m=a.add (n+m):=by
 unfold Addr.add;by_cases h:n=0
 . subst h;simp
 . by_cases h':m=0
   . subst h';simp[h]
   . rw[ae h,ae h',ae (by omega)];simp[Nat.add_assoc]
theorem add_zero (a:Addr):a.add 0=a:=by unfold Addr.add;simp
theorem c8 (g o n:Nat):(⟨g,o,none⟩:Addr).add n=⟨g,o+n,none⟩:=by unfold Addr.add;split<;>simp_all
theorem Mem.kept {w w':World}{a:Addr}{vs:List Value}(h:Mem w a vs)(hk:vs≠[]->w'.heap[a.block]? =w.heap[a.block]?):Mem w' a vs:=by
 intro j v hv;rw[World.cell?_of_block (w:=w)]
 . exact h j v hv
 . rw[p6];exact hk (by rintro rfl;simp at hv)
theorem Mem.lt {w:World}{a:Addr}{vs:List Value}(h:Mem w a vs)(hne:vs≠[]):a.block<w.heap.size:=by
 cases vs with
 |nil=>exact absurd rfl hne
 |cons v r=>have:=World.block_lt_of_cell? w _ (h 0 v rfl);rwa[p6]at this
theorem Mem.part {w:World}{a:Addr}{v1 v2:List Value}(h:Mem w a (v1++v2)):Mem w a v1/\Mem w (a.add v1.length) v2:=by
 refine⟨λj v hv=>h j v ?_,λj v hv=> ?_⟩
 . have:j<v1.length:=by
    rcases dy j v1.length with h|h
    . exact h
    . rw[iE h]at hv;cases hv
   rw[gI this];exact hv
 . rw[add_add];refine h (v1.length+j) v ?_;rw[jJ (by omega)];simpa using hv
theorem Mem.take {w:World}{a:Addr}{vs:List Value}(h:Mem w a vs)(n:Nat):Mem w a (vs.take n):=λj v hv=>h j v (by
 rw[List.getElem?_take]at hv;split at hv
 . exact hv
 . cases hv)
theorem Mem.drop {w:World}{a:Addr}{vs:List Value}(h:Mem w a vs)(n:Nat):Mem w (a.add n) (vs.drop n):=λj v hv=>by rw[add_add];exact h _ _ (by rw[nz]at hv;exact hv)
def b9 {α:Type}(rep:α->List Value->Prop):List α->List Value->Prop
 |[],vs=>vs=[]
 |x::l,vs=>∃v1 v2,vs=v1++v2/\rep x v1/\b9 rep l v2
theorem b9.mono {α:Type}{r r':α->List Value->Prop}(hr:∀x vs,r x vs->r' x vs):∀{l:List α}{vs:List Value},b9 r l vs->b9 r' l vs
 |[],_,h=>h
 |_::_,_,⟨v1,v2,e,h1,h2⟩=>⟨v1,v2,e,hr _ _ h1,b9.mono hr h2⟩
theorem b9.append {α:Type}{r:α->List Value->Prop}:∀{l l':List α}{vs vs':List Value},b9 r l vs->b9 r l' vs'->b9 r (l++l') (vs++vs')
 |[],_,_,_,h,h'=>by have:_=[]:=h;subst this;exact h'
 |_::_,_,_,_,⟨v1,v2,e,h1,h2⟩,h'=>by subst e;exact⟨v1,v2++_,by simp,h1,b9.append h2 h'⟩
def Rep (S:Nat->Prop)(w:World):(u:U)->El u->List Value->Prop
 |.int k,n,vs=>vs=[.int k n]
 |.bool,b,vs=>vs=[.bool b]
 |.str,s,vs=>vs=[.string s]
 |.unit,_,vs=>vs=[]
 |.pair a b,x,vs=>∃v1 v2,vs=v1++v2/\Rep S w a x.1 v1/\Rep S w b x.2 v2
 |.sl e,l,vs=>∃A cap cs,vs=[.slice A l.length cap]/\l.length≤cap/\b9 (Rep S w e) l cs/\
  match A with
  |none=>l=[]/\cap=0
  |some a=>Mem w a cs/\(cs≠[]->S a.block)
theorem Rep.mono {S S':Nat->Prop}{w w':World}(hS:∀g,S g->S' g)(hk:∀g,S g->w'.heap[g]? =w.heap[g]?):∀{u:U}{x:El u}{vs:List Value},Rep S w u x vs->Rep S' w' u x vs:=by
 intro u
 induction u with
 |int k=>exact λh=>h
 |bool=>exact λh=>h
 |str=>exact λh=>h
 |unit=>exact λh=>h
 |pair a b iha ihb=>
  rintro x vs ⟨v1,v2,e,h1,h2⟩;exact⟨v1,v2,e,iha h1,ihb h2⟩
 |sl e ih=>
  rintro l vs ⟨A,cap,cs,e,hc,hl,hA⟩;refine⟨A,cap,cs,e,hc,hl.mono (λ_ _ h=>ih h),?_⟩
  cases A with
  |none=>exact hA
  |some a=>exact⟨hA.1.kept λhne=>hk _ (hA.2 hne),λhne=>hS _ (hA.2 hne)⟩
theorem Rep.length {S:Nat->Prop}{w:World}:∀{u:U}{x:El u}{vs:List Value},Rep S w u x vs->vs.length=u.n:=by
 intro u
 induction u with
 |int k=>intro x vs h;cases h;rfl
 |bool=>intro x vs h;cases h;rfl
 |str=>intro x vs h;cases h;rfl
 |unit=>intro x vs h;cases h;rfl
 |pair a b iha ihb=>rintro x vs ⟨v1,v2,rfl,h1,h2⟩;simp[iha h1,ihb h2,U.n]
 |sl e ih=>rintro l vs ⟨A,cap,cs,rfl,_⟩;rfl
theorem b9.length {S:Nat->Prop}{w:World}{u:U}:∀{l:List (El u)}{vs:List Value},b9 (Rep S w u) l vs->vs.length=l.length*u.n
 |[],_,h=>by have:_=[]:=h;subst this;simp
 |_::l,_,⟨v1,v2,e,h1,h2⟩=>by subst e;simp[h1.length,b9.length h2,kM,mL]
theorem Rep.one {S:Nat->Prop}{w:World}:∀{u:U}{x:El u}{vs:List Value},Rep S w u x vs->∀v∈vs,v.oneCell'=true:=by
 intro u
 induction u with
 |int k=>intro x vs h;cases h;simp[Value.oneCell']
 |bool=>intro x vs h;cases h;simp[Value.oneCell']
 |str=>intro x vs h;cases h;simp[Value.oneCell']
 |unit=>intro x vs h;cases h;simp
 |pair a b iha ihb=>
  rintro x vs ⟨v1,v2,rfl,h1,h2⟩ v hv;rcases aC.1 hv with h|h
  . exact iha h1 v h
  . exact ihb h2 v h
 |sl e ih=>rintro l vs ⟨A,cap,cs,rfl,_⟩;simp[Value.oneCell']
theorem b9.one {S:Nat->Prop}{w:World}{u:U}:∀{l:List (El u)}{vs:List Value},b9 (Rep S w u) l vs->∀v∈vs,v.oneCell'=true
 |[],_,h=>by have:_=[]:=h;subst this;simp
 |_::l,_,⟨v1,v2,e,h1,h2⟩=>by
  subst e;intro v hv;rcases aC.1 hv with h|h
  . exact h1.one v h
  . exact b9.one h2 v h
theorem b9.at {S:Nat->Prop}{w:World}{u:U}:∀{l:List (El u)}{vs:List Value},b9 (Rep S w u) l vs->∀{i:Nat}{x:El u},l[i]? =some x->
    ∃v1 v2 v3,vs=v1++(v2++v3)/\v1.length=i*u.n/\Rep S w u x v2/\b9 (Rep S w u) (l.take i) v1/\b9 (Rep S w u) (l.drop (i+1)) v3
 |[],_,_,i,x,h=>by simp at h
 |y::l,_,⟨v1,v2,e,h1,h2⟩,0,x,h=>by
  simp at h;subst h;exact⟨[],v1,v2,by simpa using e,by simp,h1,rfl,by simpa using h2⟩
 |y::l,_,⟨v1,v2,e,h1,h2⟩,i+1,x,h=>by simp at h;obtain⟨a,b,c,rfl,hl,hr,ht,hd⟩:=b9.at h2 h;subst e;exact⟨v1++a,b,c,by simp,by simp[hl,h1.length,kM,mL],hr,⟨v1,a,rfl,h1,ht⟩,by simpa using hd⟩
theorem b9.split {α:Type}{r:α->List Value->Prop}:∀{l l':List α}{vs:List Value},b9 r (l++l') vs->∃v1 v2,vs=v1++v2/\b9 r l v1/\b9 r l' v2
 |[],_,vs,h=>⟨[],vs,rfl,rfl,h⟩
 |_::l,l',_,⟨v1,v2,e,h1,h2⟩=>by obtain⟨a,b,rfl,ha,hb⟩:=b9.split h2;exact⟨v1++a,b,by simp[e],⟨v1,a,rfl,h1,ha⟩,hb⟩
def blk :Value->Option Nat
 |.slice (some a) _ _=>some a.block
 |.pointer (some a)=>some a.block
 |.map (some r)=>some r
 |_=>none
def pv :Value->Value
 |.tuple xs=>xs.getD 0 undef
 |v=>v
theorem pJ {v:Value}(h:∃A l c,v=.slice A l c):pv v=v:=by obtain⟨_,_,_,rfl⟩:=h;rfl
def RB :Value->Nat
 |.int _ n=>n.toNat
 |_=>0
def pf :Value->List Nat
 |.slice (some a) _ _=>[a.block]
 |.pointer (some a)=>[a.block]
 |.map (some r)=>[r]
 |.tuple xs=>(xs.toList.drop 1).map RB
 |_=>[]
def eK (s:Value)(F:List Nat):Value:=.tuple (s::F.map λ(g:Nat)=>Value.int .i64 (g:Int)).toArray
theorem cF (s:Value)(F:List Nat):pv (eK s F)=s:=by simp[pv,eK]
theorem cw (s:Value)(F:List Nat):pf (eK s F)=F:=by
 unfold pf eK;simp only[List.drop_succ_cons,List.drop_zero,List.map_map]
 induction F with
 |nil=>rfl
 |cons g F ih=>rw[cR,ih];simp[RB]
def Bk (v:Value)(g:Nat):Prop:=g∈pf v
theorem Bk.EN {v:Value}{g:Nat}(h:blk v=some g):Bk v g:=by
 cases v with
 |slice a l c=>cases a with
  |none=>cases h
  |some a=>injection h with h;subst h;exact bG.2 rfl
 |pointer a=>cases a with
  |none=>cases h
  |some a=>injection h with h;subst h;exact bG.2 rfl
 |map r=>cases r with
  |none=>cases h
  |some r=>injection h with h;subst h;exact bG.2 rfl
 |_=>cases h
theorem ig {a:Addr}{l c g:Nat}:Bk (.slice (some a) l c) g↔g=a.block:=bG
theorem ic {a:Addr}{g:Nat}:Bk (.pointer (some a)) g↔g=a.block:=bG
theorem iR {r g:Nat}:Bk (.map (some r)) g↔g=r:=bG
theorem xD {l c g:Nat}:¬Bk (.slice none l c) g:=λh=>by cases h
def aaE :Option Nat->Value
 |some r=>.map (some r)
 |none=>.slice none 0 0
def aQ (S:Nat->Prop)(w:World)(φ:Nat->Value)(h:Nat->B):C->Value->Prop
 |.int k n,v=>v=.int k n
 |.bool b,v=>v=.bool b
 |.str s,v=>v=.string s
 |.sl u l,v=>Rep S w (.sl u) l [v]
 |.slx u l,v=>Rep S w (.sl u) l [v]/\∃a k c,v=.slice (some a) k c
 |.nils,v=>v=.slice none 0 0
 |.tail n i sz,v=>(h n).live=true/\∃A l c,pv (φ n)=.slice A l c/\i≤l/\v=.slice (if c=i then A else A.map (·.add (i*sz))) (l-i) (c-i)
 |.row n,v=>(h n).live=true/\v=pv (φ n)/\∃A l c,v=.slice A l c
 |.ptr n i sz off,v=>(h n).live=true/\∃g,blk (pv (φ n))=some g/\v=.pointer (some ⟨g,i*sz+off,none⟩)
 |.dptr u x off,v=>∃a cs,v=.pointer (some (a.add off))/\Rep S w u x cs/\Mem w a cs/\(cs≠[]->S a.block)
 |.nilp,v=>v=.pointer none
 |.nilf,v=>v=.nilFunc
 |.fn f,v=>v=.func (.func f) #[] #[]
 |.cap g c,v=>∃f cs x,aQ S w φ h g (.func f #[] cs)/\aQ S w φ h c x/\v=.func f #[] (cs.push x)
 |.mapr b n,v=>(h n).live=true/\∃r,v=.map r/\b=r.isNone/\pv (φ n)=aaE r
 |.nilm,v=>v=.map none
def gx (S:Nat->Prop)(w:World)(φ:Nat->Value)(h:Nat->B):W1->Value->Prop
 |.c x,v=>aQ S w φ h x v
 |.agg xs,v=>∃cs,v=.agg cs/\aW (aQ S w φ h) xs cs.toList
def bB (S:Nat->Prop)(w:World)(φ:Nat->Value)(h:Nat->B):V->Value->Prop
 |.bad,_=>True
 |.und,v=>v=undef
 |.v x,v=>gx S w φ h x v
 |.tup xs,v=>∃vs,v=.tuple vs/\aW (gx S w φ h) xs vs.toList
theorem aQ.mono {S S':Nat->Prop}{w w':World}{φ φ':Nat->Value}{h h':Nat->B}(hS:∀g,S g->S' g)(hk:∀g,S g->w'.heap[g]? =w.heap[g]?)
    (hφ:∀n,(h n).live=true->(h' n).live=true/\pv (φ' n)=pv (φ n)):∀{c:C}{v:Value},aQ S w φ h c v->aQ S' w' φ' h' c v:=by
 intro c
 induction c with
 |int k n=>exact λh=>h
 |bool b=>exact λh=>h
 |str s=>exact λh=>h
 |sl u l=>exact λh=>Rep.mono hS hk h
 |slx u l=>rintro v ⟨h1,h2⟩;exact⟨Rep.mono hS hk h1,h2⟩
 |tail n i sz=>rintro v ⟨hl,A,l,c,h1,h2,h3⟩;exact⟨(hφ n hl).1,A,l,c,by rw[(hφ n hl).2];exact h1,h2,h3⟩
 |nils=>exact λh=>h
 |row n=>rintro v ⟨hl,rfl,hv⟩;exact⟨(hφ n hl).1,(hφ n hl).2.symm,hv⟩
 |ptr n i sz off=>rintro v ⟨hl,g,hg,hv⟩;exact⟨(hφ n hl).1,g,by rw[(hφ n hl).2];exact hg,hv⟩
 |dptr u x off=>rintro v ⟨a,cs,hv,hr,hm,hs⟩;exact⟨a,cs,hv,Rep.mono hS hk hr,hm.kept λhne=>hk _ (hs hne),λhne=>hS _ (hs hne)⟩
 |nilp=>exact λh=>h
 |nilf=>exact λh=>h
 |fn f=>exact λh=>h
 |cap g c ihg ihc=>rintro v ⟨f,cs,x,h1,h2,hv⟩;exact⟨f,cs,x,ihg h1,ihc h2,hv⟩
 |mapr b n=>rintro v ⟨hl,r,h1,h2,h3⟩;exact⟨(hφ n hl).1,r,h1,h2,by rw[(hφ n hl).2];exact h3⟩
 |nilm=>exact λh=>h
theorem aQ.one {S:Nat->Prop}{w:World}{φ:Nat->Value}{h:Nat->B}:∀{c:C}{v:Value},aQ S w φ h c v->v.oneCell'=true:=by
 intro c v hr
 cases c with
 |sl u l=>exact Rep.one hr v (by simp)
 |slx u l=>exact Rep.one hr.1 v (by simp)
 |tail n i sz=>obtain⟨_,A,l,c,_,_,rfl⟩:=hr;rfl
 |row n=>obtain⟨_,_,A,l,c,rfl⟩:=hr;rfl
 |ptr n i sz off=>obtain⟨_,g,_,rfl⟩:=hr;rfl
 |dptr u x off=>obtain⟨a,cs,rfl,_⟩:=hr;rfl
 |cap g c=>obtain⟨f,cs,x,_,_,rfl⟩:=hr;rfl
 |mapr b n=>obtain⟨_,r,rfl,_⟩:=hr;rfl
 |_=>cases hr;rfl
theorem aQ.pO {S:Nat->Prop}{w:World}{φ:Nat->Value}{h:Nat->B}{c:C}{v:Value}(hr:aQ S w φ h c v):aQ S w φ h c.pO v:=by
 cases c<;>first|exact hr.1|exact hr
theorem aW.one {S:Nat->Prop}{w:World}{φ:Nat->Value}{h:Nat->B}:∀{cs:List C}{vs:List Value},aW (aQ S w φ h) cs vs->∀v∈vs,v.oneCell'=true
 |[],[],_=>by simp
 |_::cs,_::vs,hh=>by
  intro v hv;rcases aG.1 hv with rfl|hv
  . exact hh.1.one
  . exact aW.one hh.2 v hv
 |[],_::_,h=>h.elim
 |_::_,[],h=>h.elim
section
variable {S S' : Nat → Prop} {w w' : World} {φ φ' : Nat → Value} {h h' : Nat → B} (hS : ∀ g, S g → S' g) (hk : ∀ g, S g → w'.heap[g]? = w.heap[g]?)
    (hφ : ∀ n, (h n).live = true → (h' n).live = true ∧ pv (φ' n) = pv (φ n))
include hS hk hφ
theorem gx.mono {x:W1}{v:Value}(hr:gx S w φ h x v):gx S' w' φ' h' x v:=by
 cases x with
 |c x=>exact aQ.mono hS hk hφ hr
 |agg xs=>obtain⟨cs,rfl,ha⟩:=hr;exact⟨cs,rfl,ha.mono λ_ _=>aQ.mono hS hk hφ⟩
theorem bB.mono {x:V}{v:Value}(hr:bB S w φ h x v):bB S' w' φ' h' x v:=by
 cases x with
 |bad=>trivial
 |und=>exact hr
 |v x=>exact gx.mono hS hk hφ hr
 |tup xs=>obtain⟨vs,rfl,ha⟩:=hr;exact⟨vs,rfl,ha.mono λ_ _=>gx.mono hS hk hφ⟩
end
theorem ia {n:Nat}(h:bZ n=false):bH n=false:=by
 unfold bZ at h;cases e:bH n with
 |false=>rfl
 |true=>rw[e]at h;cases h
def bY {α:Type}(r:α->List Value->List Nat->Prop):List α->List Value->List Nat->Prop
 |[],vs,F=>vs=[]/\F=[]
 |x::l,vs,F=>∃v1 v2 F1 F2,vs=v1++v2/\F=F1++F2/\r x v1 F1/\bY r l v2 F2
def di {α:Type}(r:α->List Value->List Nat->Prop)(w:World)(t n:Nat)(l:List α)(v:Value)(F:List Nat):Prop:=
 ∃flat F',0<n/\w.ownsRow 0 t n v l.length flat/\bY r l flat F'/\F=(blk v).toList++F'
def bC (S:Nat->Prop)(w:World):(o:O)->El o.u->List Value->List Nat->Prop
 |.d u,x,vs,F=>Rep S w u x vs/\F=[]
 |.p a b,x,vs,F=>∃v1 v2 F1 F2,vs=v1++v2/\F=F1++F2/\bC S w a x.1 v1 F1/\bC S w b x.2 v2 F2
 |.s t e,l,vs,F=>∃v,vs=[v]/\di (bC S w e) w t e.u.n l v F
section
variable {S S' : Nat → Prop} {w w' : World}
theorem bY.all {α:Type}{r:α->List Value->List Nat->Prop}{Q:Nat->Prop}(h:∀x vs F,r x vs F->∀g∈F,Q g):∀{l:List α}{vs:List Value}{F:List Nat},bY r l vs F->∀g∈F,Q g
 |[],_,_,⟨_,hF⟩,g,hg=>by subst hF;cases hg
 |x::l,_,_,⟨v1,v2,F1,F2,_,hF,h1,h2⟩,g,hg=>by
  subst hF;rcases aC.1 hg with q|q
  . exact h _ _ _ h1 g q
  . exact bY.all h h2 g q
theorem bY.mono {α:Type}{r r':α->List Value->List Nat->Prop}{Q:Nat->Prop}(h:∀x vs F,(∀g∈F,Q g)->r x vs F->r' x vs F):∀{l:List α}{vs:List Value}{F:List Nat},(∀g∈F,Q g)->bY r l vs F->bY r' l vs F
 |[],_,_,_,hr=>hr
 |x::l,_,_,hq,⟨v1,v2,F1,F2,hv,hF,h1,h2⟩=>by subst hF;exact⟨v1,v2,F1,F2,hv,rfl,h _ _ _ (λg hg=>hq g (aC.2 (.inl hg))) h1,bY.mono h (λg hg=>hq g (aC.2 (.inr hg))) h2⟩
theorem bY.append {α:Type}{r:α->List Value->List Nat->Prop}:∀{l l':List α}{vs vs':List Value}{F F':List Nat},bY r l vs F->bY r l' vs' F'->bY r (l++l') (vs++vs') (F++F')
 |[],_,_,_,_,_,⟨hv,hF⟩,h'=>by subst hv;subst hF;exact h'
 |_::_,_,_,_,_,_,⟨v1,v2,F1,F2,hv,hF,h1,h2⟩,h'=>by subst hv;subst hF;exact⟨v1,v2++_,F1,F2++_,by simp,by simp,h1,bY.append h2 h'⟩
theorem Gg {base e size n:Nat}{v:Value}{xs:List Value}(ho:w.ownsRow base e size v n xs){g:Nat}(hg:g∈(blk v).toList):g<w.heap.size:=by
 rcases ho.2 with⟨rfl,_⟩|⟨g',cap,cur,rfl,_,hh,_⟩
 . cases hg
 . obtain rfl:=bG.1 hg;exact(dU.1 hh).1
theorem di.lt {α:Type}{r:α->List Value->List Nat->Prop}(h:∀x vs F,r x vs F->∀g∈F,g<w.heap.size){t n:Nat}{l:List α}{v:Value}{F:List Nat}(ho:di r w t n l v F):∀g∈F,g<w.heap.size:=by
 obtain⟨flat,F',_,ho,hl,rfl⟩:=ho;intro g hg;rcases aC.1 hg with q|q
 . exact Gg ho q
 . exact hl.all h g q
theorem bC.lt :∀{o:O}{x:El o.u}{vs:List Value}{F:List Nat},bC S w o x vs F->∀g∈F,g<w.heap.size:=by
 intro o
 induction o with
 |d u=>rintro x vs F ⟨_,rfl⟩ g hg;cases hg
 |p a b iha ihb=>
  rintro x vs F ⟨v1,v2,F1,F2,_,rfl,h1,h2⟩ g hg;rcases aC.1 hg with q|q
  . exact iha h1 g q
  . exact ihb h2 g q
 |s t e ih=>rintro l vs F ⟨v,_,ho⟩;exact ho.lt λx vs F h=>ih h
theorem bC.length :∀{o:O}{x:El o.u}{vs:List Value}{F:List Nat},bC S w o x vs F->vs.length=o.u.n:=by
 intro o
 induction o with
 |d u=>rintro x vs F ⟨h,_⟩;exact h.length
 |p a b iha ihb=>rintro x vs F ⟨v1,v2,F1,F2,rfl,_,h1,h2⟩;simp[iha h1,ihb h2,U.n]
 |s t e ih=>rintro l vs F ⟨v,rfl,_⟩;rfl
theorem bY.length {o:O}:∀{l:List (El o.u)}{vs:List Value}{F:List Nat},bY (bC S w o) l vs F->vs.length=l.length*o.u.n
 |[],_,_,⟨h,_⟩=>by subst h;simp
 |_::l,_,_,⟨v1,v2,F1,F2,e,_,h1,h2⟩=>by subst e;simp[h1.length,bY.length h2,kM,mL]
theorem OR {base e size n:Nat}{v:Value}{xs:List Value}(ho:w.ownsRow base e size v n xs):v.oneCell'=true:=by rcases ho.2 with⟨rfl,_⟩|⟨g',cap,cur,rfl,_⟩<;>rfl
theorem bC.one :∀{o:O}{x:El o.u}{vs:List Value}{F:List Nat},bC S w o x vs F->∀v∈vs,v.oneCell'=true:=by
 intro o
 induction o with
 |d u=>rintro x vs F ⟨h,_⟩;exact h.one
 |p a b iha ihb=>
  rintro x vs F ⟨v1,v2,F1,F2,rfl,_,h1,h2⟩ v hv;rcases aC.1 hv with h|h
  . exact iha h1 v h
  . exact ihb h2 v h
 |s t e ih=>rintro l vs F ⟨v,rfl,flat,F',_,ho,_⟩ x hx;rw[bG.1 hx];exact OR ho
theorem bY.one {o:O}:∀{l:List (El o.u)}{vs:List Value}{F:List Nat},bY (bC S w o) l vs F->∀v∈vs,v.oneCell'=true
 |[],_,_,⟨h,_⟩=>by subst h;simp
 |_::l,_,_,⟨v1,v2,F1,F2,e,_,h1,h2⟩=>by
  subst e;intro v hv;rcases aC.1 hv with h|h
  . exact h1.one v h
  . exact bY.one h2 v h
theorem A4 {base e size n:Nat}{v:Value}{xs:List Value}(ho:w.ownsRow base e size v n xs)(hk:∀g∈(blk v).toList,w'.heap[g]? =w.heap[g]?):w'.ownsRow base e size v n xs:=by
 refine⟨ho.1,?_⟩;rcases ho.2 with hn|⟨g,cap,cur,rfl,hb,hg,rest⟩
 . exact .inl hn
 . exact .inr ⟨g,cap,cur,rfl,hb,by rw[hk g (bG.2 rfl)];exact hg,rest⟩
theorem di.mono {α:Type}{r r':α->List Value->List Nat->Prop}(h:∀x vs F,(∀g∈F,w'.heap[g]? =w.heap[g]?)->r x vs F->r' x vs F){t n:Nat}{l:List α}{v:Value}{F:List Nat}(hk:∀g∈F,w'.heap[g]? =w.heap[g]?)
    (ho:di r w t n l v F):di r' w' t n l v F:=by
 obtain⟨flat,F',hn,ho,hl,rfl⟩:=ho;exact⟨flat,F',hn,A4 ho λg hg=>hk g (aC.2 (.inl hg)),hl.mono h λg hg=>hk g (aC.2 (.inr hg)),rfl⟩
theorem bC.mono (hS:∀g,S g->S' g)(hk:∀g,S g->w'.heap[g]? =w.heap[g]?):∀{o:O}{x:El o.u}{vs:List Value}{F:List Nat},(∀g∈F,w'.heap[g]? =w.heap[g]?)->bC S w o x vs F->bC S' w' o x vs F:=by
 intro o
 induction o with
 |d u=>rintro x vs F _ ⟨h,e⟩;exact⟨Rep.mono hS hk h,e⟩
 |p a b iha ihb=>
  rintro x vs F hF ⟨v1,v2,F1,F2,e,rfl,h1,h2⟩;exact⟨v1,v2,F1,F2,e,rfl,iha (λg hg=>hF g (aC.2 (.inl hg))) h1,ihb (λg hg=>hF g (aC.2 (.inr hg))) h2⟩
 |s t e ih=>rintro l vs F hF ⟨v,e,ho⟩;exact⟨v,e,ho.mono (λx vs F hq h=>ih hq h) hF⟩
theorem bY.rep {α:Type}{r:α->List Value->List Nat->Prop}{q:α->List Value->Prop}{Q:Nat->Prop}(h:∀x vs F,(∀g∈F,Q g)->r x vs F->q x vs):∀{l:List α}{vs:List Value}{F:List Nat},(∀g∈F,Q g)->bY r l vs F->b9 q l vs
 |[],_,_,_,⟨e,_⟩=>e
 |x::l,_,_,hq,⟨v1,v2,F1,F2,hv,hF,h1,h2⟩=>by subst hF;exact⟨v1,v2,hv,h _ _ _ (λg hg=>hq g (aC.2 (.inl hg))) h1,bY.rep h (λg hg=>hq g (aC.2 (.inr hg))) h2⟩
theorem di.rep {u:U}{r:El u->List Value->List Nat->Prop}(h:∀x vs F,(∀g∈F,S' g)->r x vs F->Rep S' w u x vs){t:Nat}{l:List (El u)}{v:Value}{F:List Nat}(hF:∀g∈F,S' g)(ho:di r w t u.n l v F):Rep S' w (.sl u) l [v]:=by
 obtain⟨flat,F',hn,ho,hl,rfl⟩:=ho;have hl':=hl.rep h λg hg=>hF g (aC.2 (.inr hg))
 rcases ho.2 with⟨rfl,h0⟩|⟨g,cap,cur,rfl,_,hg,hc,_,_,ht⟩
 . have:l=[]:=db h0;subst this;exact⟨none,0,[],rfl,aM _,rfl,rfl,rfl⟩
 . exact⟨some ⟨g,0,none⟩,cap,flat,rfl,hc,hl',ho.cells rfl,λ_=>hF g (aC.2 (.inl (bG.2 rfl)))⟩
theorem bC.rep (hS:∀g,S g->S' g):∀{o:O}{x:El o.u}{vs:List Value}{F:List Nat},(∀g∈F,S' g)->bC S w o x vs F->Rep S' w o.u x vs:=by
 intro o
 induction o with
 |d u=>rintro x vs F _ ⟨h,_⟩;exact Rep.mono hS (λ_ _=>rfl) h
 |p a b iha ihb=>
  rintro x vs F hF ⟨v1,v2,F1,F2,e,rfl,h1,h2⟩;exact⟨v1,v2,e,iha (λg hg=>hF g (aC.2 (.inl hg))) h1,ihb (λg hg=>hF g (aC.2 (.inr hg))) h2⟩
 |s t e ih=>rintro l vs F hF ⟨v,rfl,ho⟩;exact ho.rep (λx vs F hq h=>ih hq h) hF
end
def B.mut :B->Bool
 |.row .. |.box .. =>true
 |.own .. |.opn .. =>true
 |.mp .. =>true
 |.mr .. =>true
 |_=>false
def fq (S:Nat->Prop)(w:World)(a:Bool)(u:U)(x:El u)(v:Value):Prop:=match a with
 |true=>∃cs,v=.agg cs/\Rep S w u x cs.toList
 |false=>Rep S w u x [v]
theorem fq.mono {S S':Nat->Prop}{w w':World}(hS:∀g,S g->S' g)(hk:∀g,S g->w'.heap[g]? =w.heap[g]?){a:Bool}{u:U}{x:El u}{v:Value}(h:fq S w a u x v):fq S' w' a u x v:=by
 cases a with
 |true=>obtain⟨cs,e,h⟩:=h;exact⟨cs,e,Rep.mono hS hk h⟩
 |false=>exact Rep.mono hS hk h
def tH (S:Nat->Prop)(w:World)(ka va:Bool)(ku vu:U)(x:El ku×El vu)(e:MapEntry):Prop:=fq S w ka ku x.1 e.key/\fq S w va vu x.2 e.val
def lE (S:Nat->Prop)(w:World)(ka va:Bool)(ku vu:U)(l:List (El ku×El vu))(es:Array MapEntry)(clock:Nat):Prop:=
 aW (tH S w ka va ku vu) l es.toList/\clock=es.size/\∀(i:Nat)(e:MapEntry),es[i]? =some e->e.born=i
theorem lE.mono {S S':Nat->Prop}{w w':World}{ka va:Bool}{ku vu:U}{l:List (El ku×El vu)}{es:Array MapEntry}{clock:Nat}(h:lE S w ka va ku vu l es clock)(hr:∀x e,tH S w ka va ku vu x e->tH S' w' ka va ku vu x e):lE S' w' ka va ku vu l es clock:=
 ⟨h.1.mono hr,h.2⟩
def sn (S:Nat->Prop)(w:World)(e:Nat)(u:U)(x:Option (List (El u)))(v:Value)(F:List Nat):Prop:=match x with
 |some l=>di (bC S w (.d u)) w e u.n l v F
 |none=>F=[]
def dz (S:Nat->Prop)(w:World)(ka:Bool)(ku:U)(e:Nat)(u:U):List (El ku×Option (List (El u)))->List MapEntry->List Nat->Prop
 |[],[],F=>F=[]
 |x::l,en::es,F=>∃F1 F2,F=F1++F2/\fq S w ka ku x.1 en.key/\sn S w e u x.2 en.val F1/\dz S w ka ku e u l es F2
 |_,_,_=>False
def iQ (es:Array MapEntry)(clock:Nat):Prop:=clock=es.size/\∀(i:Nat)(e:MapEntry),es[i]? =some e->e.born=i
theorem sn.mono {S S':Nat->Prop}{w w':World}(hS:∀g,S g->S' g)(hk:∀g,S g->w'.heap[g]? =w.heap[g]?){e:Nat}{u:U}{x:Option (List (El u))}{v:Value}{F:List Nat}(hF:∀g∈F,w'.heap[g]? =w.heap[g]?)(h:sn S w e u x v F):sn S' w' e u x v F:=by
 cases x with
 |none=>exact h
 |some l=>exact di.mono (λx vs F hq h=>bC.mono hS hk hq h) hF h
theorem dz.mono {S S':Nat->Prop}{w w':World}(hS:∀g,S g->S' g)(hk:∀g,S g->w'.heap[g]? =w.heap[g]?){ka:Bool}{ku:U}{e:Nat}{u:U}:∀{l:List (El ku×Option (List (El u)))}{es:List MapEntry}{F:List Nat},(∀g∈F,w'.heap[g]? =w.heap[g]?)->dz S w ka ku e u l es F->dz S' w' ka ku e u l es F
 |[],[],_,_,h=>h
 |x::l,en::es,_,hF,⟨F1,F2,e1,h1,h2,h3⟩=>by
  subst e1;exact⟨F1,F2,rfl,h1.mono hS hk,h2.mono hS hk λg hg=>hF g (aC.2 (.inl hg)),dz.mono hS hk (λg hg=>hF g (aC.2 (.inr hg))) h3⟩
 |[],_::_,_,_,h=>h.elim
 |_::_,[],_,_,h=>h.elim
def ci (S:Nat->Prop)(w:World)(φ:Nat->Value)(h:Nat->B)(ok:Nat->Prop)(v:Value):B->Prop
 |.free=>True
 |.gone=>True
 |.row e u l=>0<u.n/\∃flat,w.ownsRow 0 e u.n v l.length flat/\b9 (Rep S w u) l flat/\∀g,Bk v g->ok g
 |.ro _ u l=>0<u.n/\∃flat cap,b9 (Rep S w u) l flat/\l.length≤cap/\
    ((pv v=.slice none 0 0/\l=[])\/∃g,pv v=.slice (some ⟨g,0,none⟩) l.length cap/\Mem w ⟨g,0,none⟩ flat/\(flat≠[]->S g))
 |.box t cs=>∃g vals,v=.pointer (some ⟨g,0,none⟩)/\w.heap[g]? =some (.cells vals t (0,0))/\aW (aQ S w φ h) cs vals.toList/\ok g
 |.own t o l=>∃s F,(pv v=s/\pf v=F)/\di (bC S w o) w t o.u.n l s F/\F.Nodup/\∀g∈F,ok g
 |.opn t o l i cs=>∃s F v1 v2 v3 F1 F3,v=eK s F/\0<o.u.n/\i<l.length/\w.ownsRow 0 t o.u.n s l.length (v1++(v2++v3))/\bY (bC S w o) (l.take i) v1 F1/\aW (aQ S w φ h) cs v2/\v2.length=o.u.n/\bY (bC S w o) (l.drop (i+1)) v3 F3/\F=(blk s).toList++(F1++F3)/\F.Nodup/\∀g∈F,ok g
 |.glo q=>∃g ob,blk (pv v)=some g/\w.heap[g]? =some ob/\q ob/\S g
 |.mr _ ka ku e u l=>ku.flat=true/\∃r es clock F,pv v=.map (some r)/\w.heap[r]? =some (.map es clock)/\dz S w ka ku e u l es.toList F/\iQ es clock/\(r::F).Nodup/\(∀g∈r::F,Bk v g)/\∀g,Bk v g->ok g/\g<w.heap.size
 |.mp _ ka va ku vu l=>ku.flat=true/\True/\((v=.slice none 0 0/\l=[])\/∃r es clock,v=.map (some r)/\w.heap[r]? =some (.map es clock)/\lE S w ka va ku vu l es clock/\ok r)
structure Cx where
 aB:Nat->B
 w0:World
 own:Nat->Prop
 S0:Nat->Prop
 φ0:Nat->Value
def Cx.ok (cx:Cx)(g:Nat):Prop:=cx.w0.heap.size≤g\/cx.own g
structure xq (cx:Cx)(w:World):Prop where
 os:w.os=cx.w0.os
 tape:w.tape=cx.w0.tape
 output:w.output=cx.w0.output
 size:cx.w0.heap.size≤w.heap.size
 block:∀k,k<cx.w0.heap.size->¬cx.own k->w.heap[k]? =cx.w0.heap[k]?
structure aY (cx:Cx)(φ:Nat->Value)(S:Nat->Prop)(h:Nat->B)(w:World):Prop where
 b:∀n,ci S w φ h cx.ok (φ n) (h n)
 apart:∀n m g,n≠m->(h n).mut=true->(h m).mut=true->Bk (φ n) g->¬Bk (φ m) g
 sep:∀n g,(h n).mut=true->Bk (φ n) g->¬S g
 inS:∀g,S g->g<cx.w0.heap.size->cx.S0 g\/cx.own g
 lt:∀g,S g->g<w.heap.size
 aB:∀g,bH (cU g)=true->(h (cU g)).live=true->blk (pv (φ (cU g)))=some g
 gl:∀n,bH n=true->h n=cx.aB n/\(h n).mut=false
 kp:∀n,bZ n=true->(h n).live=true->pv (φ n)=pv (cx.φ0 n)
 keep:xq cx w
structure bA (cx:Cx)(nt:Nat)(φ:Nat->Value)(S:Nat->Prop)(st:St)(a:Act)(w:World):Prop where
 t:∀i,bB S w φ st.h (st.t i) (a.tmps.getD i undef)
 m:aY cx φ S st.h w
 size:a.tmps.size=nt
 defers:a.defers=[]
theorem bM {b:B}(h:b.mut=true):b.live=true:=by cases b<;>first|rfl|cases h
theorem aY.iS {cx:Cx}{φ:Nat->Value}{S:Nat->Prop}{h:Nat->B}{w:World}(m:aY cx φ S h w){n g:Nat}(hm:(h n).mut=true)(hb:Bk (φ n) g):g<w.heap.size:=by
 have:=m.b n
 cases e:h n with
 |row ee u l=>
  rw[e]at this;obtain⟨_,flat,ho,_,_⟩:=this;rcases ho.2 with⟨h0,_⟩|⟨g',cap,cur,h0,_,hg,_⟩
  . rw[h0]at hb;exact(xD hb).elim
  . rw[h0]at hb;rw[ig.1 hb];exact(dU.1 hg).1
 |box t cs=>
  rw[e]at this;obtain⟨g',vals,h0,hg,_⟩:=this;rw[h0]at hb;rw[ic.1 hb];exact(dU.1 hg).1
 |own t o l=>
  rw[e]at this;obtain⟨s,F,h0,ho,_⟩:=this;unfold Bk at hb;rw[h0.2]at hb;exact ho.lt (λ_ _ _ hx=>bC.lt hx) g hb
 |opn t o l i cs=>
  rw[e]at this;obtain⟨s,F,v1,v2,v3,F1,F3,h0,_,_,ho,h1,_,_,h3,hF,_⟩:=this;rw[h0]at hb;unfold Bk at hb;rw[cw,hF]at hb;rcases aC.1 hb with q|q
  . exact Gg ho q
  . rcases aC.1 q with q|q
    . exact h1.all (λ_ _ _ hx=>bC.lt hx) g q
    . exact h3.all (λ_ _ _ hx=>bC.lt hx) g q
 |mp t ka va ku vu l=>
  rw[e]at this;obtain⟨_,_,⟨h0,_⟩|⟨r,es,clock,h0,hg,_⟩⟩:=this
  . rw[h0]at hb;exact(xD hb).elim
  . rw[h0]at hb;rw[iR.1 hb];exact(dU.1 hg).1
 |mr t ka ku ee u l=>
  rw[e]at this;obtain⟨_,r,es,clock,F,_,_,_,_,_,_,hok⟩:=this;exact(hok g hb).2
 |free=>rw[e]at hm;cases hm
 |gone=>rw[e]at hm;cases hm
 |ro=>rw[e]at hm;cases hm
 |glo=>rw[e]at hm;cases hm
theorem aj {α:Type}(f:Nat->α)(i:Nat)(x:α):upd f i x i=x:=by simp[upd]
theorem az {α:Type}(f:Nat->α){i j:Nat}(x:α)(h:j≠i):upd f i x j=f j:=by
 unfold upd
 cases e:Nat.beq j i with
 |true=>exact absurd (aR e) h
 |false=>rfl
section
variable {S : Nat → Prop} {w : World} {φ : Nat → Value} {h : Nat → B}
theorem wk :∀{v:Value}{c:C},lh v=some c->aQ S w φ h c v:=by
 intro v c hv
 cases v with
 |int k n=>injection hv with hv;subst hv;rfl
 |bool b=>injection hv with hv;subst hv;rfl
 |string s=>injection hv with hv;subst hv;rfl
 |nilFunc=>injection hv with hv;subst hv;rfl
 |slice a n k=>
  simp only[lh]at hv;split at hv
  . injection hv with hv;subst hv;rfl
  . cases hv
 |pointer a=>cases a<;>first|(injection hv with hv;subst hv;rfl)|cases hv
 |map a=>cases a<;>first|(injection hv with hv;subst hv;rfl)|cases hv
 |func g x y=>
  simp only[lh]at hv;split at hv
  . rename_i f hx hy;injection hv with hv;subst hv;have hx:x= #[]:=by cases x;simp_all
    have hy:y= #[]:=by cases y;simp_all
    subst hx;subst hy;rfl
  . cases hv
 |_=>cases hv
theorem cL :∀{vs:List Value}{cs:List C},dF vs=some cs->aW (aQ S w φ h) cs vs
 |[],cs,hv=>by simp[dF]at hv;subst hv;trivial
 |v::r,cs,hv=>by
  simp only[dF]at hv
  cases e:lh v with
  |none=>rw[e]at hv;cases hv
  |some c=>
   rw[e]at hv
   cases e2:dF r with
   |none=>rw[e2]at hv;cases hv
   |some cs'=>rw[e2]at hv;injection hv with hv;subst hv;exact⟨wk e,cL e2⟩
theorem EX (v:Value):bB S w φ h (zy v) v:=by
 unfold zy;split
 . split
   . rename_i l cs hl;exact⟨_,rfl,cL hl⟩
   . trivial
 . split
   . rename_i c hc;exact wk hc
   . trivial
theorem cD {cx:Cx}{nt:Nat}{st:St}{a:Act}(m:bA cx nt φ S st a w)(x:Operand):bB S w φ st.h (ay st x) (a.eval x):=by
 cases x with
 |tmp t=>exact m.t t
 |const v=>exact EX v
 |func f=>exact rfl
 |global g=>
  simp only[ay]
  cases e:bH (cU g)&&(st.h (cU g)).live with
  |false=>trivial
  |true=>rw[aH]at e;exact⟨e.2,g,m.m.aB g e.1 e.2,by simp[Act.eval]⟩
theorem EY {x:V}{v:Value}{c:C}(hr:bB S w φ h x v)(hc:x.one=some c):aQ S w φ h c v:=by
 cases x with
 |v x=>cases x with
  |c y=>simp[V.one]at hc;subst hc;exact hr
  |agg xs=>simp[V.one]at hc
 |_=>simp[V.one]at hc
theorem yO {v:Value}(h:v.oneCell'=true):v.cells= #[v]:=by cases v<;>first|rfl|simp[Value.oneCell']at h
theorem lq {x:V}{v:Value}{cs:List C}(hr:bB S w φ h x v)(hc:x.cells=some cs):aW (aQ S w φ h) cs v.cells.toList:=by
 cases x with
 |v x=>cases x with
  |c y=>
   simp[V.cells,W1.cells]at hc;subst hc;have hr:aQ S w φ h y v:=hr;rw[yO hr.one];exact⟨hr,trivial⟩
  |agg xs=>
   simp[V.cells,W1.cells]at hc;subst hc;obtain⟨cs,rfl,ha⟩:=hr;exact ha
 |_=>simp[V.cells]at hc
theorem cP :∀{u:U}{x:El u}{vs:List Value},Rep S w u x vs->aW (aQ S w φ h) (cB u x) vs:=by
 intro u
 induction u with
 |int k=>intro x vs hr;cases hr;exact⟨rfl,trivial⟩
 |bool=>intro x vs hr;cases hr;exact⟨rfl,trivial⟩
 |str=>intro x vs hr;cases hr;exact⟨rfl,trivial⟩
 |unit=>intro x vs hr;cases hr;trivial
 |pair a b iha ihb=>rintro x vs ⟨v1,v2,rfl,h1,h2⟩;exact(iha h1).append (ihb h2)
 |sl e ih=>intro l vs hr;obtain⟨A,cap,cs,rfl,hx⟩:=hr;exact⟨⟨A,cap,cs,rfl,hx⟩,trivial⟩
theorem mH :∀{u:U}{x:El u},(cB u x).length=u.n:=by
 intro u
 induction u with
 |pair a b iha ihb=>intro x;simp[cB,iha,ihb,U.n]
 |_=>intro x;rfl
theorem HF {ok:Nat->Prop}{v:Value}{e:Nat}{u:U}{l:List (El u)}{S':Nat->Prop}(hS:∀g,S g->S' g)(hb:ci S w φ h ok v (.row e u l))(hv:∀g,Bk v g->S' g):Rep S' w (.sl u) l [pv v]:=by
 obtain⟨hn,flat,ho,hl,_⟩:=hb;have hl':b9 (Rep S' w u) l flat:=hl.mono λ_ _=>Rep.mono hS (λ_ _=>rfl)
 rcases ho.2 with⟨rfl,h0⟩|⟨g,cap,cur,rfl,_,hg,hc,_,_,ht⟩
 . have:l=[]:=db h0;subst this;exact⟨none,0,[],rfl,aM _,rfl,rfl,rfl⟩
 . exact⟨some ⟨g,0,none⟩,cap,flat,rfl,hc,hl',ho.cells rfl,λ_=>hv g (ig.2 rfl)⟩
theorem E1 {ok:Nat->Prop}{v:Value}{e:Nat}{u:U}{l:List (El u)}(hb:ci S w φ h ok v (.ro e u l)):Rep S w (.sl u) l [pv v]:=by
 obtain⟨hn,flat,cap,hl,hc,hv⟩:=hb;rcases hv with⟨hv,rfl⟩|⟨g,hv,hm,hs⟩
 . rw[hv];exact⟨none,0,[],rfl,aM _,rfl,rfl,rfl⟩
 . rw[hv];exact⟨some ⟨g,0,none⟩,cap,flat,rfl,hc,hl,hm,hs⟩
theorem ta {ok:Nat->Prop}(hb:∀n,ci S w φ h ok (φ n) (h n)){S':Nat->Prop}(hS:∀g,S g->S' g){u:U}{c:C}{v:Value}{l:List (El u)}(hr:aQ S w φ h c v)(hd:dv h u c=some l)
    (hrow:∀n,c=.row n->(h n).isRow=true->∀g,Bk (φ n) g->S' g):Rep S' w (.sl u) l [v]:=by
 unfold dv at hd;split at hd
 . rename_i u' l';split at hd
   . rename_i e;subst e;injection hd with hd;subst hd;exact Rep.mono hS (λ_ _=>rfl) hr
   . cases hd
 . split at hd
   . rename_i e;subst e;injection hd with hd;subst hd;exact Rep.mono hS (λ_ _=>rfl) hr.1
   . cases hd
 . injection hd with hd;subst hd;have:v=.slice none 0 0:=hr;subst this;exact⟨none,0,[],rfl,aM _,rfl,rfl,rfl⟩
 . rename_i n;obtain⟨_,hv,_⟩:=hr;subst hv;have hn:=hb n;split at hd
   . rename_i e u' l' hh;split at hd
     . rename_i q;subst q;injection hd with hd;subst hd;rw[hh]at hn;exact HF hS hn (hrow n rfl (by rw[hh];rfl))
     . cases hd
   . rename_i e u' l' hh;split at hd
     . rename_i q;subst q;injection hd with hd;subst hd;rw[hh]at hn;exact Rep.mono hS (λ_ _=>rfl) (E1 hn)
     . cases hd
   . rename_i e o l' hh;split at hd
     . rename_i q;subst q;injection hd with hd;subst hd;rw[hh]at hn;obtain⟨s,F,hv,ho,_⟩:=hn;have hF:=hrow n rfl (by rw[hh];rfl);rw[hv.1];exact ho.rep (λx vs F hq h=>h.rep hS hq) λg hg=>hF g (by unfold Bk;rw[hv.2];exact hg)
     . cases hd
   . cases hd
 . cases hd
theorem wo {ok:Nat->Prop}(hb:∀n,ci S w φ h ok (φ n) (h n)){S':Nat->Prop}(hS:∀g,S g->S' g):∀{u:U}{cs:List C}{vs:List Value}{x:El u}{rest:List C},
    aW (aQ S w φ h) cs vs->bV h u cs=some (x,rest)->(∀n∈bn cs,(h n).isRow=true->∀g,Bk (φ n) g->S' g)->
    ∃v1 v2,vs=v1++v2/\Rep S' w u x v1/\aW (aQ S w φ h) rest v2/\(∀n∈bn rest,n∈bn cs):=by
 intro u
 induction u with
 |int k=>
  intro cs vs x rest ha ho hrow;simp only[bV]at ho;split at ho
  . rename_i k' n r;split at ho
    . rename_i q;subst q;injection ho with ho;injection ho with h1 h2;subst h1;subst h2
      cases vs with
      |nil=>exact ha.elim
      |cons v vs=>exact⟨[v],vs,rfl,by have:=ha.1;exact congrArg (· ::[]) this,ha.2,λn hn=>hn⟩
    . cases ho
  . cases ho
 |bool=>
  intro cs vs x rest ha ho hrow;simp only[bV]at ho;split at ho
  . injection ho with ho;injection ho with h1 h2;subst h1;subst h2
    cases vs with
    |nil=>exact ha.elim
    |cons v vs=>exact⟨[v],vs,rfl,by have:=ha.1;exact congrArg (· ::[]) this,ha.2,λn hn=>hn⟩
  . cases ho
 |str=>
  intro cs vs x rest ha ho hrow;simp only[bV]at ho;split at ho
  . injection ho with ho;injection ho with h1 h2;subst h1;subst h2
    cases vs with
    |nil=>exact ha.elim
    |cons v vs=>exact⟨[v],vs,rfl,by have:=ha.1;exact congrArg (· ::[]) this,ha.2,λn hn=>hn⟩
  . cases ho
 |unit=>
  intro cs vs x rest ha ho hrow;simp only[bV]at ho;injection ho with ho;injection ho with h1 h2;subst h2;exact⟨[],vs,rfl,rfl,ha,λn hn=>hn⟩
 |pair a b iha ihb=>
  intro cs vs x rest ha ho hrow;simp only[bV]at ho;split at ho
  . rename_i x1 r1 e1;split at ho
    . rename_i x2 r2 e2;injection ho with ho;injection ho with h1 h2;subst h1;subst h2;obtain⟨v1,v2,rfl,hr1,ha2,hs1⟩:=iha ha e1 hrow;obtain⟨v3,v4,rfl,hr2,ha4,hs2⟩:=ihb ha2 e2 λn hn=>hrow n (hs1 n hn)
      exact⟨v1++v3,v4,by simp,⟨v1,v3,rfl,hr1,hr2⟩,ha4,λn hn=>hs1 n (hs2 n hn)⟩
    . cases ho
  . cases ho
 |sl e ih=>
  intro cs vs x rest ha ho hrow;simp only[bV]at ho;split at ho
  . rename_i c r;split at ho
    . rename_i l hl;injection ho with ho;injection ho with h1 h2;subst h1;subst h2
      cases vs with
      |nil=>exact ha.elim
      |cons v vs=>
       refine⟨[v],vs,rfl,ta hb hS ha.1 hl λn hc=> ?_,ha.2,λn hn=> ?_⟩
       . subst hc;exact hrow n (by simp[bn])
       . cases c<;>simp[bn]<;>first|exact hn|exact .inr hn
    . cases ho
  . cases ho
theorem ef {ok:Nat->Prop}(hb:∀n,ci S w φ h ok (φ n) (h n)){S':Nat->Prop}(hS:∀g,S g->S' g){u:U}{cs:List C}{vs:List Value}{x:El u}
    (ha:aW (aQ S w φ h) cs vs) (ho:datum h u cs=some x) (hrow:∀n∈bn cs,(h n).isRow=true->∀g,Bk (φ n) g->S' g):Rep S' w u x vs:=by
 unfold datum at ho;split at ho
 . rename_i y hy;injection ho with ho;subst ho;obtain⟨v1,v2,rfl,hr,h2,_⟩:=wo hb hS ha hy hrow
   cases v2 with
   |nil=>simpa using hr
   |cons v v2=>exact h2.elim
 . cases ho
theorem kY {u:U}{cs:List C}{x:El u}(ho:datum h u cs=some x):cs.length=u.n:=by
 unfold datum at ho;split at ho
 . rename_i y hy
   have:∀{u:U}{cs:List C}{x:El u}{rest:List C},bV h u cs=some (x,rest)->cs.length=u.n+rest.length:=by
    intro u
    induction u with
    |int k=>
     intro cs x rest ho;simp only[bV]at ho;split at ho
     . split at ho
       . injection ho with ho;injection ho with h1 h2;subst h2;simp[U.n];omega
       . cases ho
     . cases ho
    |bool=>
     intro cs x rest ho;simp only[bV]at ho;split at ho
     . injection ho with ho;injection ho with h1 h2;subst h2;simp[U.n];omega
     . cases ho
    |str=>
     intro cs x rest ho;simp only[bV]at ho;split at ho
     . injection ho with ho;injection ho with h1 h2;subst h2;simp[U.n];omega
     . cases ho
    |unit=>
     intro cs x rest ho;simp only[bV]at ho;injection ho with ho;injection ho with h1 h2;subst h2;simp[U.n]
    |pair a b iha ihb=>
     intro cs x rest ho;simp only[bV]at ho;split at ho
     . rename_i x1 r1 e1;split at ho
       . rename_i x2 r2 e2;injection ho with ho;injection ho with h1 h2;subst h2;rw[iha e1,ihb e2];simp[U.n];omega
       . cases ho
     . cases ho
    |sl e ih=>
     intro cs x rest ho;simp only[bV]at ho;split at ho
     . split at ho
       . injection ho with ho;injection ho with h1 h2;subst h2;simp[U.n];omega
       . cases ho
     . cases ho
   simpa using this hy
 . cases ho
end
theorem xd {w w':World}{base e size:Nat}{v:Value}{n:Nat}{xs:List Value}(h:w.ownsRow base e size v n xs)(hk:∀g,Bk v g->w'.heap[g]? =w.heap[g]?):w'.ownsRow base e size v n xs:=by
 refine⟨h.1,?_⟩;rcases h.2 with hn|⟨g,cap,cur,rfl,hb,hg,rest⟩
 . exact .inl hn
 . exact .inr ⟨g,cap,cur,rfl,hb,by rw[hk g (ig.2 rfl)];exact hg,rest⟩
section
variable {S S' : Nat → Prop} {w w' : World} {φ φ' : Nat → Value} {h h' : Nat → B} {ok : Nat → Prop}
theorem ci.mono (hS:∀g,S g->S' g)(hk:∀g,S g->w'.heap[g]? =w.heap[g]?)(hφ:∀n,(h n).live=true->(h' n).live=true/\pv (φ' n)=pv (φ n)){b:B}{v:Value}
    (hb:b.mut=true->∀g,Bk v g->w'.heap[g]? =w.heap[g]?) (hr:ci S w φ h ok v b):ci S' w' φ' h' ok v b:=by
 cases b with
 |free=>trivial
 |gone=>trivial
 |row e u l=>
  obtain⟨hn,flat,ho,hl,hok⟩:=hr;exact⟨hn,flat,xd ho (hb rfl),hl.mono λ_ _=>Rep.mono hS hk,hok⟩
 |ro e u l=>
  obtain⟨hn,flat,cap,hl,hc,hv⟩:=hr;refine⟨hn,flat,cap,hl.mono λ_ _=>Rep.mono hS hk,hc,?_⟩;rcases hv with hv|⟨g,hv,hm,hs⟩
  . exact .inl hv
  . exact .inr ⟨g,hv,hm.kept λhne=>hk g (hs hne),λhne=>hS g (hs hne)⟩
 |box t cs=>
  obtain⟨g,vals,rfl,hg,ha,hok⟩:=hr;exact⟨g,vals,rfl,by rw[hb rfl g (ic.2 rfl)];exact hg,ha.mono λ_ _=>aQ.mono hS hk hφ,hok⟩
 |own t o l=>
  obtain⟨s,F,h0,ho,hn,hok⟩:=hr;have hF:∀g∈F,w'.heap[g]? =w.heap[g]? :=λg hg=>hb rfl g (by unfold Bk;rw[h0.2];exact hg)
  exact⟨s,F,h0,ho.mono (λx vs F hq h=>bC.mono hS hk hq h) hF,hn,hok⟩
 |opn t o l i cs=>
  obtain⟨s,F,v1,v2,v3,F1,F3,rfl,hu,hi,ho,h1,h2,h2',h3,hF,hn,hok⟩:=hr;have hF':∀g∈F,w'.heap[g]? =w.heap[g]? :=λg hg=>hb rfl g (by unfold Bk;rw[cw];exact hg)
  refine⟨s,F,v1,v2,v3,F1,F3,rfl,hu,hi,A4 ho λg hg=>hF' g (by rw[hF];exact aC.2 (.inl hg)),?_,h2.mono λ_ _=>aQ.mono hS hk hφ,h2',?_,hF,hn,hok⟩
  . exact h1.mono (λx vs F hq h=>bC.mono hS hk hq h) λg hg=>hF' g (by rw[hF];exact aC.2 (.inr (aC.2 (.inl hg))))
  . exact h3.mono (λx vs F hq h=>bC.mono hS hk hq h) λg hg=>hF' g (by rw[hF];exact aC.2 (.inr (aC.2 (.inr hg))))
 |glo q=>obtain⟨g,ob,h1,h2,h3,h4⟩:=hr;exact⟨g,ob,h1,by rw[hk g h4];exact h2,h3,hS g h4⟩
 |mp t ka va ku vu l=>
  obtain⟨h1,h2,hr⟩:=hr;refine⟨h1,h2,?_⟩;rcases hr with⟨rfl,h0⟩|⟨r,es,clock,rfl,hg,ha,hok⟩
  . exact .inl ⟨rfl,h0⟩
  . exact .inr ⟨r,es,clock,rfl,by rw[hb rfl r (iR.2 rfl)];exact hg,ha.mono λ_ _ h=>⟨h.1.mono hS hk,h.2.mono hS hk⟩,hok⟩
 |mr t ka ku e u l=>
  obtain⟨h1,r,es,clock,F,h2,h3,h4,h5,h6,h7,h8⟩:=hr;refine⟨h1,r,es,clock,F,h2,by rw[hb rfl r (h7 r (bQ ..))];exact h3,h4.mono hS hk (λg hg=>hb rfl g (h7 g (bk _ hg))),h5,h6,h7,λg hg=>⟨(h8 g hg).1,?_⟩⟩;have:=(h8 g hg).2;rcases dy g w'.heap.size with q|q
  . exact q
  . have h9:=hb rfl g hg;rw[Array.getElem?_eq_none q,vF this]at h9;cases h9
theorem eH {w:World}{base e size n:Nat}{v:Value}{xs:List Value}(h:w.ownsRow base e size v n xs):blk v=v.ownBlock:=by rcases h.2 with⟨rfl,_⟩|⟨g,cap,cur,rfl,_⟩<;>rfl
end
section
variable {S : Nat → Prop} {w : World} {φ : Nat → Value} {h : Nat → B} {ok : Nat → Prop} {v : Value}
theorem jD {e:Nat}{u:U}{l:List (El u)}(hb:ci S w φ h ok v (.row e u l)):pv v=v:=by obtain⟨_,flat,ho,_⟩:=hb;rcases ho.2 with⟨rfl,_⟩|⟨g,cap,cur,rfl,_⟩<;>rfl
theorem yY {base e size n:Nat}{xs:List Value}(ho:w.ownsRow base e size v n xs){g:Nat}:Bk v g↔blk v=some g:=by
 rcases ho.2 with⟨rfl,_⟩|⟨g',cap,cur,rfl,_⟩
 . exact⟨λh=>(xD h).elim,λh=>by cases h⟩
 . exact⟨λh=>by rw[ig.1 h];rfl,λh=>.EN h⟩
end
theorem gj {S:Nat->Prop}{w:World}{φ:Nat->Value}{h:Nat->B}{ok:Nat->Prop}{b:B}{v:Value}(hb:b.mut=true)(hr:ci S w φ h ok v b){g:Nat}(hg:Bk v g):ok g:=by
 cases b with
 |row e u l=>obtain⟨_,_,_,_,hok⟩:=hr;exact hok g hg
 |box t cs=>obtain⟨g',vals,h0,_,_,hok⟩:=hr;rw[h0]at hg;rw[ic.1 hg];exact hok
 |own t o l=>obtain⟨s,F,h0,_,_,hok⟩:=hr;unfold Bk at hg;rw[h0.2]at hg;exact hok g hg
 |opn t o l i cs=>obtain⟨s,F,v1,v2,v3,F1,F3,h0,_,_,_,_,_,_,_,_,_,hok⟩:=hr;rw[h0]at hg;unfold Bk at hg;rw[cw]at hg;exact hok g hg
 |mp t ka va ku vu l=>
  obtain⟨_,_,⟨h0,_⟩|⟨r,es,clock,h0,_,_,hok⟩⟩:=hr
  . rw[h0]at hg;exact(xD hg).elim
  . rw[h0]at hg;rw[iR.1 hg];exact hok
 |mr t ka ku e u l=>
  obtain⟨_,r,es,clock,F,_,_,_,_,_,_,hok⟩:=hr;exact(hok g hg).1
 |_=>cases hb
def giveUp (h:Nat->B):Option Nat->Nat->B
 |some n=>upd h n .gone
 |none=>h
theorem kf {h:Nat->B}{n:Nat}{b:B}(hb:b.live=true):∀k,(h k).live=true->(upd h n b k).live=true:=by
 intro k hk;by_cases e:k=n
 . subst e;rw[aj];exact hb
 . rw[az _ _ e];exact hk
theorem xq.step {cx:Cx}{w w':World}(k:xq cx w)(ho:w'.os=w.os)(ht:w'.tape=w.tape)(hu:w'.output=w.output)(hs:w.heap.size≤w'.heap.size)
    (hb:∀g,g<w.heap.size->¬cx.ok g->w'.heap[g]? =w.heap[g]?):xq cx w':=
 ⟨ho.trans k.os,ht.trans k.tape,hu.trans k.output,o6 k.size hs,λg hg hn=>
  (hb g (r8 hg k.size) (λh=>h.elim (λh=>absurd hg (Nat.not_lt.2 h)) hn)).trans (k.block g hg hn)⟩
section
variable {cx : Cx} {φ : Nat → Value} {S : Nat → Prop} {h : Nat → B} {w : World}
theorem aY.change (m:aY cx φ S h w){w':World}(ho:w'.os=w.os)(ht:w'.tape=w.tape)(hu:w'.output=w.output)(hs:w.heap.size≤w'.heap.size)
    (old:Option Nat)
    (hold:∀n,old=some n->(h n).mut=true)
    (hb:∀g,g<w.heap.size->(∀n,old=some n->¬Bk (φ n) g)->w'.heap[g]? =w.heap[g]?)
    (dst:Nat) (b:B) (v:Value) (hbl:b.live=true)
    (hfree:old=some dst/\pv v=pv (φ dst)\/(h dst).live=false/\bZ dst=false)
    (hv:∀g,Bk v g->(∃n,old=some n/\Bk (φ n) g)\/w.heap.size≤g)
    (hrel:∀(h':Nat->B),h'=upd (giveUp h old) dst b->ci S w' (upd φ dst v) h' cx.ok v b):
    aY cx (upd φ dst v) S (upd (giveUp h old) dst b) w':=by
 have hrel:=hrel _ rfl;generalize hh:giveUp h old=h1 at hrel⊢
 have h1live:∀n,(h1 n).live=(h n).live:=by
  intro n;subst hh
  cases old with
  |none=>rfl
  |some n0=>
   by_cases e:n=n0
   . subst e;simp only[giveUp,aj];rw[bM (hold n rfl)];rfl
   . simp only[giveUp,az _ _ e]
 have h1mut:∀n,(h1 n).mut=true->(h n).mut=true/\old≠some n:=by
  intro n hn;subst hh
  cases old with
  |none=>exact⟨hn,by simp⟩
  |some n0=>
   by_cases e:n=n0
   . subst e;simp only[giveUp,aj]at hn;cases hn
   . simp only[giveUp,az _ _ e]at hn;exact⟨hn,λh=>e (dk h).symm⟩
 have hφ:∀n,(h n).live=true->(upd h1 dst b n).live=true/\pv (upd φ dst v n)=pv (φ n):=by
  intro n hn;refine⟨kf hbl n (by rw[h1live];exact hn),?_⟩;by_cases e:n=dst
  . subst e;rcases hfree with⟨_,hv⟩|⟨hf,_⟩
    . rw[aj,hv]
    . rw[hf]at hn;cases hn
  . rw[az _ _ e]
 have hkS:∀g,S g->w'.heap[g]? =w.heap[g]? :=λg hg=>hb g (m.lt g hg) λn hn hbl=>m.sep n g (hold n hn) hbl hg
 have other:∀n g,n≠dst->(h1 n).mut=true->Bk (φ n) g->w'.heap[g]? =w.heap[g]? :=by
  intro n g hne hm hbk;obtain⟨hm',hno⟩:=h1mut n hm;refine hb g (m.iS hm' hbk) λn0 hn0 hb0=> ?_
  exact m.apart n n0 g (λe=>hno (by rw[hn0,e])) hm' (hold n0 hn0) hbk hb0
 constructor
 . intro n;by_cases e:n=dst
   . subst e;rw[aj,aj];exact hrel
   . rw[az _ _ e,az _ _ e]
     have hb0:ci S w φ h cx.ok (φ n) (h1 n):=by
      subst hh
      cases old with
      |none=>exact m.b n
      |some n0=>
       by_cases e2:n=n0
       . subst e2;simp only[giveUp,aj];trivial
       . simp only[giveUp,az _ _ e2];exact m.b n
     exact ci.mono (λ_ h=>h) hkS hφ (λhm g hg=>other n g e hm hg) hb0
 . intro n k g hnk hn hk hbn hbk;by_cases e:n=dst
   . subst e;rw[aj]at hbn;have e':k≠n:=λe=>hnk e.symm
     rw[az _ _ e']at hk hbk;obtain⟨hk',hko⟩:=h1mut k hk;rcases hv g hbn with⟨n0,hn0,hb0⟩|hge
     . exact m.apart k n0 g (λe=>hko (by rw[hn0,e])) hk' (hold n0 hn0) hbk hb0
     . have:=m.iS hk' hbk;omega
   . rw[az _ _ e]at hn hbn;by_cases e2:k=dst
     . subst e2;rw[aj]at hbk;obtain⟨hn',hno⟩:=h1mut n hn;rcases hv g hbk with⟨n0,hn0,hb0⟩|hge
       . exact m.apart n n0 g (λe=>hno (by rw[hn0,e])) hn' (hold n0 hn0) hbn hb0
       . have:=m.iS hn' hbn;omega
     . rw[az _ _ e2]at hk hbk;exact m.apart n k g hnk (h1mut n hn).1 (h1mut k hk).1 hbn hbk
 . intro n g hn hbn hg;by_cases e:n=dst
   . subst e;rw[aj]at hbn;rcases hv g hbn with⟨n0,hn0,hb0⟩|hge
     . exact m.sep n0 g (hold n0 hn0) hb0 hg
     . have:=m.lt g hg;omega
   . rw[az _ _ e]at hn hbn;exact m.sep n g (h1mut n hn).1 hbn hg
 . exact m.inS
 . exact λg hg=>r8 (m.lt g hg) hs
 . intro g hgl hg;by_cases e:cU g=dst
   . rw[<-e,aj];rcases hfree with⟨ho,hv'⟩|⟨hf,hgl'⟩
     . rw[hv',<-e];exact m.aB g hgl (by rw[e];exact bM (hold dst ho))
     . rw[e,ia hgl']at hgl;cases hgl
   . rw[az _ _ e];rw[az _ _ e,h1live]at hg;exact m.aB g hgl hg
 . intro n hgl;obtain⟨hg1,hg2⟩:=m.gl n hgl
   have hnd:n≠dst:=by
    rintro rfl;rcases hfree with⟨ho,_⟩|⟨_,hf⟩
    . rw[hold n ho]at hg2;cases hg2
    . rw[ia hf]at hgl;cases hgl
   rw[az _ _ hnd]
   have:h1 n=h n:=by
    subst hh
    cases old with
    |none=>rfl
    |some n0=>
     have:n≠n0:=by rintro rfl;rw[hold n rfl]at hg2;cases hg2
     simp only[giveUp,az _ _ this]
   rw[this];exact⟨hg1,hg2⟩
 . intro n hk hl;by_cases e:n=dst
   . subst e;rw[aj];rcases hfree with⟨ho,hv'⟩|⟨_,hf⟩
     . rw[hv'];exact m.kp n hk (bM (hold n ho))
     . rw[hf]at hk;cases hk
   . rw[az _ _ e]at hl⊢;rw[h1live]at hl;exact m.kp n hk hl
 . refine m.keep.step ho ht hu hs λg hg hno=>hb g hg λn hn hbn=>hno ?_
   exact gj (hold n hn) (m.b n) hbn
theorem iI {α:Type}(f:Nat->α)(i:Nat)(x y:α):upd (upd f i x) i y=upd f i y:=by
 funext j
 by_cases e:j=i
 . subst e;rw[aj,aj]
 . rw[az _ _ e,az _ _ e,az _ _ e]
theorem kg {α:Type}(f:Nat->α)(i:Nat):upd f i (f i)=f:=by
 funext j
 by_cases e:j=i
 . subst e;rw[aj]
 . rw[az _ _ e]
theorem qG (b:B):b.freeze.live=b.live:=by cases b<;>rfl
theorem IT {b:B}(h:b.freeze.mut=true):b.mut=true:=by cases b<;>first|exact h|cases h
theorem sJ {b:B}:b.freeze.mut=false:=by cases b<;>rfl
theorem vn {b:B}(h:b.isRow=true):b.mut=true:=by cases b<;>first|rfl|cases h
theorem IU {ok:Nat->Prop}{b:B}{v:Value}{h':Nat->B}(hm:b.mut=true)(hb:ci S w φ h ok v b):ci (λg=>S g\/b.mut=true/\Bk v g) w φ h' ok v b.freeze:=by
 cases b with
 |box t cs=>trivial
 |opn t o l i cs=>trivial
 |row ee u l=>
  have hpv:=jD hb;obtain⟨hn,flat,ho,hl,hok⟩:=hb;have hl':b9 (Rep (λg=>S g\/(B.row ee u l).mut=true/\Bk v g) w u) l flat:=hl.mono λ_ _=>Rep.mono (λg h=>.inl h) (λ_ _=>rfl)
  rcases ho.2 with⟨h0,hz⟩|⟨g,cap,cur,h0,_,hg,hc,_,_,ht⟩
  . exact⟨hn,flat,l.length,hl',aM _,.inl ⟨by rw[hpv];exact h0,db hz⟩⟩
  . refine⟨hn,flat,cap,hl',hc,.inr ⟨g,by rw[hpv];exact h0,?_,λ_=>.inr ⟨rfl,by rw[h0];exact ig.2 rfl⟩⟩⟩;rw[h0]at ho;exact ho.cells rfl
 |own t o l=>
  obtain⟨s,F,h0,ho,_,_⟩:=hb;have hF:∀g∈F,S g\/(B.own t o l).mut=true/\Bk v g:=λg hg=>.inr ⟨rfl,by unfold Bk;rw[h0.2];exact hg⟩
  have hrep:=ho.rep (S':=λg=>S g\/(B.own t o l).mut=true/\Bk v g) (λx vs F hq h=>h.rep (λ_ h=>.inl h) hq) hF;obtain⟨flat,F',hn,how,_,_⟩:=ho;obtain⟨A,cap,cs,e1,hc,hl,hA⟩:=hrep;injection e1 with e1 _;refine⟨hn,cs,cap,hl,hc,?_⟩;rw[h0.1]
  cases A with
  |none=>obtain⟨h1,h2⟩:=hA;exact .inl ⟨by rw[e1,h1,h2];rfl,h1⟩
  |some a=>
   rcases how.2 with⟨h0,_⟩|⟨g,cap',cur,h0,_⟩
   . rw[h0]at e1;cases e1
   . rw[h0]at e1;injection e1 with e2 e3 e4;injection e2 with e2;subst e2;subst e4;exact .inr ⟨g,by rw[h0],hA.1,hA.2⟩
 |mp t ka va ku vu l=>trivial
 |mr t ka ku e u l=>trivial
 |_=>cases hm
theorem aY.Hi (m:aY cx φ S h w)(n:Nat):aY cx φ (λg=>S g\/(h n).mut=true/\Bk (φ n) g) (upd h n (h n).freeze) w:=by
 cases hmut:(h n).mut with
 |true=>
  have hbn:=m.b n;have hlv:(h n).freeze.live=true:=by rw[qG];exact bM hmut
  have hφ:∀k,(h k).live=true->(upd h n (h n).freeze k).live=true/\pv (φ k)=pv (φ k):=λk hk=>⟨kf hlv k hk,rfl⟩
  have hm:∀k,(upd h n (h n).freeze k).mut=true->k≠n/\(h k).mut=true:=by
   intro k hk;by_cases e2:k=n
   . subst e2;rw[aj,sJ]at hk;cases hk
   . rw[az _ _ e2]at hk;exact⟨e2,hk⟩
  constructor
  . intro k;by_cases e2:k=n
    . subst e2;rw[aj];have:=IU (h':=upd h k (h k).freeze) hmut hbn;rw[hmut]at this;exact this
    . rw[az _ _ e2];exact ci.mono (λg h=>.inl h) (λ_ _=>rfl) hφ (λ_ _ _=>rfl) (m.b k)
  . intro k j g hkj hk hj hbk;exact m.apart k j g hkj (hm k hk).2 (hm j hj).2 hbk
  . intro k g hk hbk hS;obtain⟨hkn,hk⟩:=hm k hk;rcases hS with hS|⟨_,hS⟩
    . exact m.sep k g hk hbk hS
    . exact m.apart k n g hkn hk hmut hbk hS
  . rintro g (hS|⟨_,hS⟩) hlt
    . exact m.inS g hS hlt
    . rcases gj hmut hbn hS with h|h
      . omega
      . exact .inr h
  . rintro g (hS|⟨_,hS⟩)
    . exact m.lt g hS
    . exact m.iS hmut hS
  . intro g hgl hg;refine m.aB g hgl ?_;by_cases e2:cU g=n
    . rw[e2];exact bM hmut
    . rw[az _ _ e2]at hg;exact hg
  . intro k hgl;have hg:=m.gl k hgl;have:k≠n:=by rintro rfl;rw[hmut]at hg;exact absurd hg.2 (by simp)
    rw[az _ _ this];exact hg
  . intro k hk hl;refine m.kp k hk ?_;by_cases e2:k=n
    . subst e2;exact bM hmut
    . rw[az _ _ e2]at hl;exact hl
  . exact m.keep
 |false=>
  have he:(λg=>S g\/false=true/\Bk (φ n) g)=S:=by funext g;simp
  have hu:upd h n (h n).freeze=h:=by
   have:(h n).freeze=h n:=by cases e:h n<;>rw[e]at hmut<;>first|rfl|cases hmut
   rw[this];exact kg h n
  rw[he,hu];exact m
theorem rR (ns:List Nat):∀(h:Nat->B)(k:Nat),(aZ h ns k).live=(h k).live:=by
 induction ns with
 |nil=>intro h k;rfl
 |cons n r ih=>
  intro h k;rw[aZ,ih];by_cases e:k=n
  . subst e;rw[aj,qG]
  . rw[az _ _ e]
theorem BM (ns:List Nat):∀(h:Nat->B)(k:Nat),(aZ h ns k).mut=true->(h k).mut=true:=by
 induction ns with
 |nil=>intro h k hk;exact hk
 |cons n r ih=>
  intro h k hk;rw[aZ]at hk;have:=ih _ _ hk;by_cases e:k=n
  . subst e;rw[aj]at this;exact IT this
  . rwa[az _ _ e]at this
theorem aY.aZ (ns:List Nat):∀{S:Nat->Prop}{h:Nat->B},aY cx φ S h w->∃S',(∀g,S g->S' g)/\aY cx φ S' (aZ h ns) w/\∀n∈ns,(h n).mut=true->∀g,Bk (φ n) g->S' g:=by
 induction ns with
 |nil=>intro S h m;exact⟨S,λ_ h=>h,m,by simp⟩
 |cons n r ih=>
  intro S h m;obtain⟨S',hS,m',hr⟩:=ih (m.Hi n);refine⟨S',λg hg=>hS g (.inl hg),m',λk hk hrow g hg=> ?_⟩;by_cases e:k=n
  . subst e;exact hS g (.inr ⟨hrow,hg⟩)
  . rcases aG.1 hk with h1|h1
    . exact absurd h1 e
    . exact hr k h1 (by rw[az _ _ e];exact hrow) g hg
end
section
variable {S S' : Nat → Prop} {w w' : World} {φ : Nat → Value} {h : Nat → B}
theorem TY {a b:Nat}(h:a<b):Nat.blt a b=true:=by rw[dM];exact h
theorem aW.Lx {α β:Type}{r:α->β->Prop}:∀{l:List α}{m:List β},l.length=m.length->(∀(i:Nat) a b,l[i]? =some a->m[i]? =some b->r a b)->aW r l m
 |[],[],_,_=>trivial
 |a::l,b::m,hl,h=>⟨h 0 a b rfl rfl,aW.Lx (by simpa using hl) λi x y hx hy=>h (i+1) x y (by simpa using hx) (by simpa using hy)⟩
 |[],_::_,hl,_=>by cases hl
 |_::_,[],hl,_=>by cases hl
theorem aW.at {α β:Type}{r:α->β->Prop}{l:List α}{m:List β}(h:aW r l m){i:Nat}{a:α}{b:β}(ha:l[i]? =some a)(hb:m[i]? =some b):r a b:=by obtain⟨b',h1,h2⟩:=h.get ha;rw[hb]at h1;injection h1 with h1;subst h1;exact h2
theorem aW.set {α β:Type}{r:α->β->Prop}:∀{l:List α}{m:List β}(i:Nat){a:α}{b:β},aW r l m->r a b->aW r (l.set i a) (m.set i b)
 |[],[],_,_,_,_,_=>trivial
 |_::_,_::_,0,_,_,h,hr=>⟨hr,h.2⟩
 |_::_,_::_,i+1,_,_,h,hr=>⟨h.1,aW.set i h.2 hr⟩
 |[],_::_,_,_,_,h,_=>h.elim
 |_::_,[],_,_,_,h,_=>h.elim
theorem O.pE :∀{o:O},o.jt.length=o.u.n:=by
 intro o
 induction o with
 |d u=>simp[O.jt]
 |p a b iha ihb=>simp[O.jt,iha,ihb,U.n]
 |s t e _=>rfl
theorem pA {α:Type}{l r:List α}{n i:Nat}(hn:l.length=n):(l++r)[i]? =if i<n then l[i]? else r[i-n]? :=by
 subst hn;split
 . rename_i hi;rw[gI hi]
 . rename_i hi;rw[jJ (by omega)]
theorem bC.leaf :∀{o:O}{x:El o.u}{vs:List Value}{F:List Nat},bC S w o x vs F->∀{i:Nat}{c:C}{v:Value},o.jt[i]? =some true->(cB o.u x)[i]? =some c->vs[i]? =some v->aQ S w φ h c v:=by
 intro o
 induction o with
 |d u=>rintro x vs F ⟨hr,_⟩ i c v _ hc hv;exact(cP hr).at hc hv
 |p a b iha ihb=>
  rintro x vs F ⟨v1,v2,F1,F2,rfl,_,h1,h2⟩ i c v hl hc hv;simp only[O.jt]at hl;change (cB a.u x.1++cB b.u x.2)[i]? =some c at hc;rw[pA O.pE]at hl;rw[pA mH]at hc;rw[pA h1.length]at hv;split at hl
  . rename_i q;rw[ah q]at hc hv;exact iha h1 hl hc hv
  . rename_i q;rw[ae q]at hc hv;exact ihb h2 hl hc hv
 |s t e _=>intro x vs F _ i c v hl;cases i<;>simp[O.jt]at hl
theorem bC.cells {o:O}{x:El o.u}{vs:List Value}{F:List Nat}(hr:bC S w o x vs F){off n:Nat}(hp:o.plain off n=true):aW (aQ S w φ h) (((cB o.u x).drop off).take n) ((vs.drop off).take n):=by
 unfold O.plain at hp;rw[aH,dj]at hp;obtain⟨h1,h2⟩:=hp;have h2:=nu h2;rw[O.pE]at h2;refine aW.Lx (by simp[mH,hr.length]) λi c v hc hv=> ?_
 rw[List.getElem?_take]at hc hv;split at hc
 . rename_i hi;rw[ah hi]at hv;rw[nz]at hc hv;refine hr.leaf (i:=off+i) ?_ hc hv;have hlt:off+i<o.jt.length:=by rw[O.pE];omega
   have hm:o.jt[off+i]∈(o.jt.drop off).take n:=by refine aX (i:=i) ?_;rw[List.getElem?_take,ah hi,nz,aL hlt]
   have:=h1 _ hm;rw[aL hlt];simp only[id]at this;rw[this]
 . cases hc
theorem A8 {c:C}(hp:c.plain=true){v:Value}(hr:aQ S w φ h c v):aQ S w φ (λ_=>.free) c v:=by
 cases c<;>first|exact hr|cases hp
theorem ue {ok:Nat->Prop}:∀n,ci S w φ (λ_=>.free) ok (φ n) ((λ_=>B.free) n):=λ_=>trivial
theorem bC.set :∀{o:O}{x y:El o.u}{vs:List Value}{F:List Nat}{off:Nat}{c:C}{v:Value},bC S w o x vs F->setAt o x off c=some y->aQ S w φ h c v->off<o.u.n/\bC S w o y (vs.set off v) F:=by
 intro o
 induction o with
 |d u=>
  rintro x y vs F off c v ⟨hr,rfl⟩ hs hc;simp only[setAt]at hs
  cases hb:Nat.blt off u.n&&c.plain with
  |false=>rw[hb]at hs;cases hs
  |true=>
   rw[hb]at hs;rw[aH,dM]at hb;have ha:=(cP (φ:=φ) (h:=λ_=>.free) hr).set off (A8 hb.2 hc);exact⟨hb.1,⟨ef (ok:=λ_=>True) ue (λ_ h=>h) ha hs λn _ hn=>(by cases hn),rfl⟩⟩
 |p a b iha ihb=>
  rintro x y vs F off c v ⟨v1,v2,F1,F2,rfl,rfl,h1,h2⟩ hs hc;simp only[setAt]at hs
  cases hb:Nat.blt off a.u.n with
  |true=>
   rw[hb]at hs;simp only[ab]at hs;split at hs
   . rename_i y1 e;injection hs with hs;subst hs;obtain⟨k1,k2⟩:=iha h1 e hc;refine⟨by show off<a.u.n+b.u.n;omega,v1.set off v,v2,F1,F2,?_,rfl,k2,h2⟩;rw[List.set_append_left _ _ (by rw[h1.length];exact k1)]
   . cases hs
  |false=>
   rw[hb]at hs;simp only[ac]at hs
   have hge:a.u.n≤off:=by
    refine Nat.le_of_not_lt λq=> ?_
    rw[TY q]at hb;cases hb
   split at hs
   . rename_i y1 e;injection hs with hs;subst hs;obtain⟨k1,k2⟩:=ihb h2 e hc;refine⟨by show off<a.u.n+b.u.n;omega,v1,v2.set (off-a.u.n) v,F1,F2,?_,rfl,h1,k2⟩;rw[vI _ _ (by rw[h1.length];exact hge),h1.length]
   . cases hs
 |s t e _=>intro x y vs F off c v _ hs;cases hs
theorem bY.at {o:O}:∀{l:List (El o.u)}{vs:List Value}{F:List Nat},bY (bC S w o) l vs F->∀{i:Nat}{x:El o.u},l[i]? =some x->
    ∃v1 v2 v3 F1 F2 F3,vs=v1++(v2++v3)/\F=F1++(F2++F3)/\v1.length=i*o.u.n/\bC S w o x v2 F2/\bY (bC S w o) (l.take i) v1 F1/\bY (bC S w o) (l.drop (i+1)) v3 F3
 |[],_,_,_,i,x,h=>by simp at h
 |y::l,_,_,⟨v1,v2,F1,F2,e,eF,h1,h2⟩,0,x,h=>by
  simp at h;subst h;exact⟨[],v1,v2,[],F1,F2,by simpa using e,by simpa using eF,by simp,h1,⟨rfl,rfl⟩,by simpa using h2⟩
 |y::l,_,_,⟨v1,v2,F1,F2,e,eF,h1,h2⟩,i+1,x,h=>by simp at h;obtain⟨a,b,c,A,B,D,rfl,rfl,hl,hr,ht,hd⟩:=bY.at h2 h;subst e;subst eF;exact⟨v1++a,b,c,F1++A,B,D,by simp,by simp,by simp[hl,h1.length,kM,mL],hr,⟨v1,a,F1,A,rfl,rfl,h1,ht⟩,by simpa using hd⟩
def uH :O->Value->List Nat->Value
 |.d _,v,_=>v
 |_,v,F=>eK v F
theorem di.slice {α:Type}{r:α->List Value->List Nat->Prop}{t n:Nat}{l:List α}{v:Value}{F:List Nat}(ho:di r w t n l v F):∃A k c,v=.slice A k c:=by
 obtain⟨flat,F',_,how,_,_⟩:=ho;rcases how.2 with⟨rfl,_⟩|⟨g,cap,cur,rfl,_⟩
 . exact⟨_,_,_,rfl⟩
 . exact⟨_,_,_,rfl⟩
theorem bY.Ju {u:U}:∀{l:List (El u)}{vs:List Value}{F:List Nat},bY (bC S w (.d u)) l vs F->F=[]/\b9 (Rep S w u) l vs
 |[],_,_,⟨h1,h2⟩=>⟨h2,h1⟩
 |_::_,_,_,⟨v1,v2,F1,F2,e1,e2,⟨h1,h3⟩,h2⟩=>by obtain⟨k1,k2⟩:=bY.Ju h2;subst e2;subst h3;subst k1;exact⟨rfl,v1,v2,e1,h1,k2⟩
theorem bY.Lw {u:U}:∀{l:List (El u)}{vs:List Value},b9 (Rep S w u) l vs->bY (bC S w (.d u)) l vs []
 |[],_,h=>⟨h,rfl⟩
 |_::_,_,⟨v1,v2,e,h1,h2⟩=>⟨v1,v2,[],[],e,rfl,⟨h1,rfl⟩,bY.Lw h2⟩
theorem LP {e:O}{α:Type}{r:α->List Value->List Nat->Prop}{t n:Nat}{l:List α}{v:Value}{F:List Nat}(ho:di r w t n l v F):pv (uH e v F)=v:=by
 cases e with
 |d u=>exact pJ ho.slice
 |p a b=>exact cF v F
 |s t e=>exact cF v F
theorem CD {v:Value}{A:Option Addr}{k c:Nat}(h:v=.slice A k c):pf v=(blk v).toList:=by subst h;cases A<;>rfl
theorem Bi {e:O}{t:Nat}{l:List (El e.u)}{v:Value}{F:List Nat}(ho:di (bC S w e) w t e.u.n l v F):pf (uH e v F)=F:=by
 cases e with
 |d u=>
  obtain⟨A,k,c,hv⟩:=ho.slice;obtain⟨flat,F',_,how,hl,rfl⟩:=ho;obtain⟨rfl,_⟩:=bY.Ju hl;show pf v=_;rw[CD hv];simp
 |p a b=>exact cw v F
 |s t e=>exact cw v F
theorem Bh {ok:Nat->Prop}{e:O}{t:Nat}{l:List (El e.u)}{v:Value}{F:List Nat}(ho:di (bC S w e) w t e.u.n l v F)(hn:F.Nodup)(hok:∀g∈F,ok g):ci S w φ h ok (uH e v F) (rowOf t e l):=by
 cases e with
 |d u=>
  have hpf:=Bi ho;obtain⟨flat,F',h0,how,hl,rfl⟩:=ho;obtain⟨rfl,hl2⟩:=bY.Ju hl;exact⟨h0,flat,how,hl2,λg hg=>hok g (by unfold Bk at hg;rw[<-hpf];exact hg)⟩
 |p a b=>exact⟨v,F,⟨cF v F,cw v F⟩,ho,hn,hok⟩
 |s t' e=>exact⟨v,F,⟨cF v F,cw v F⟩,ho,hn,hok⟩
theorem LO {t:Nat}{e:O}{l:List (El e.u)}:(rowOf t e l).mut=true:=by cases e<;>rfl
theorem Aa {ok:Nat->Prop}{t:Nat}{e:O}{b:B}{l:List (El e.u)}{v:Value}(ha:xA t e b=some l)(hb:ci S w φ h ok v b):b.mut=true/\di (bC S w e) w t e.u.n l (pv v) (pf v)/\(pf v).Nodup:=by
 unfold xA at ha;split at ha
 . rename_i t' u l'
   cases ht:Nat.beq t' t with
   |false=>rw[ht]at ha;cases ha
   |true=>
    rw[ht]at ha;have:=aR ht;subst this;simp only[ab]at ha;split at ha
    . rename_i q;subst q;injection ha with ha;change l'=l at ha;subst ha;have hpv:=jD hb;obtain⟨hn,flat,ho,hl,hok⟩:=hb
      have hsl:∃A k c,v=.slice A k c:=by
       rcases ho.2 with⟨rfl,_⟩|⟨g,cap,cur,rfl,_⟩
       . exact⟨_,_,_,rfl⟩
       . exact⟨_,_,_,rfl⟩
      obtain⟨A,k,c,hv⟩:=hsl;rw[hpv,CD hv];refine⟨rfl,⟨flat,[],hn,ho,bY.Lw hl,by simp⟩,?_⟩;cases blk v<;>simp
    . cases ha
 . rename_i t' o l'
   cases ht:Nat.beq t' t with
   |false=>rw[ht]at ha;cases ha
   |true=>
    rw[ht]at ha;have:=aR ht;subst this;simp only[ab]at ha;split at ha
    . rename_i q;subst q;injection ha with ha;subst ha;obtain⟨s,F,h0,ho,hn,hok⟩:=hb;rw[h0.1,h0.2];exact⟨rfl,ho,hn⟩
    . cases ha
 . cases ha
def gF (S:Nat->Prop)(w:World):(o:O)->El o.u->List Value->List Nat->Nat->(Nat->Value)->Prop
 |.d u,x,vs,F,_,_=>Rep S w u x vs/\F=[]
 |.p a b,x,vs,F,k,ψ=>∃v1 v2 F1 F2,vs=v1++v2/\F=F1++F2/\gF S w a x.1 v1 F1 k ψ/\gF S w b x.2 v2 F2 (k+a.rows) ψ
 |.s t e,l,vs,F,k,ψ=>∃v,vs=[v]/\di (bC S w e) w t e.u.n l v F/\ψ k=uH e v F
theorem gF.congr :∀{o:O}{x:El o.u}{vs:List Value}{F:List Nat}{k:Nat}{ψ ψ':Nat->Value},(∀n,k≤n->n<k+o.rows->ψ' n=ψ n)->gF S w o x vs F k ψ->gF S w o x vs F k ψ':=by
 intro o
 induction o with
 |d u=>intro x vs F k ψ ψ' _ h;exact h
 |p a b iha ihb=>
  rintro x vs F k ψ ψ' hq ⟨v1,v2,F1,F2,e1,e2,h1,h2⟩;simp only[O.rows]at hq;exact⟨v1,v2,F1,F2,e1,e2,iha (λn h1 h2=>hq n h1 (by omega)) h1,ihb (λn h1 h2=>hq n (by omega) (by omega)) h2⟩
 |s t e _=>rintro l vs F k ψ ψ' hq ⟨v,e1,ho,hv⟩;exact⟨v,e1,ho,by rw[hq k (aM k) (by simp[O.rows]),hv]⟩
theorem bC.opened :∀{o:O}{x:El o.u}{vs:List Value}{F:List Nat}(k:Nat),bC S w o x vs F->∃ψ,gF S w o x vs F k ψ:=by
 intro o
 induction o with
 |d u=>intro x vs F k h;exact⟨λ_=>undef,h⟩
 |p a b iha ihb=>
  rintro x vs F k ⟨v1,v2,F1,F2,e1,e2,h1,h2⟩;obtain⟨ψ1,k1⟩:=iha k h1;obtain⟨ψ2,k2⟩:=ihb (k+a.rows) h2;refine⟨λn=>if n<k+a.rows then ψ1 n else ψ2 n,v1,v2,F1,F2,e1,e2,k1.congr λn _ hn=>ah hn,k2.congr λn hn _=>ae (by omega)⟩
 |s t e _=>rintro l vs F k ⟨v,e1,ho⟩;exact⟨λ_=>uH e v F,v,e1,ho,rfl⟩
theorem nf :∀{o:O}{x:El o.u}{k:Nat}{h:Nat->B}{n:Nat},(n<k\/k+o.rows≤n)->gQ o x k h n=h n:=by
 intro o
 induction o with
 |d u=>intro x k h n _;rfl
 |p a b iha ihb=>
  intro x k h n hn;simp only[O.rows]at hn;simp only[gQ];rw[ihb (by omega),iha (by omega)]
 |s t e _=>intro x k h n hn;simp only[O.rows]at hn;exact az _ _ (by omega)
theorem LA :∀{o:O}{x:El o.u}{k:Nat}{h:Nat->B}{n:Nat},k≤n->n<k+o.rows->(gQ o x k h n).mut=true:=by
 intro o
 induction o with
 |d u=>intro x k h n h1 h2;simp only[O.rows]at h2;omega
 |p a b iha ihb=>
  intro x k h n h1 h2;simp only[O.rows]at h2;simp only[gQ];rcases dy n (k+a.rows)with q|q
  . rw[nf (.inl q)];exact iha h1 q
  . exact ihb q (by omega)
 |s t e _=>
  intro x k h n h1 h2;simp only[O.rows]at h2;have:n=k:=by omega
  subst this;simp only[gQ,aj];exact LO
theorem gF.rel {ok:Nat->Prop}:∀{o:O}{x:El o.u}{vs:List Value}{F:List Nat}{k:Nat}{ψ:Nat->Value},gF S w o x vs F k ψ->F.Nodup->(∀g∈F,ok g)->∀{h0:Nat->B}{n:Nat},k≤n->n<k+o.rows->
    ci S w φ h ok (ψ n) (gQ o x k h0 n)/\∀g,Bk (ψ n) g->g∈F:=by
 intro o
 induction o with
 |d u=>intro x vs F k ψ _ _ _ h0 n h1 h2;simp only[O.rows]at h2;omega
 |p a b iha ihb=>
  rintro x vs F k ψ ⟨v1,v2,F1,F2,e1,rfl,k1,k2⟩ hn hok h0 n h1 h2;simp only[O.rows]at h2;simp only[gQ];have hn':=cQ.1 hn;rcases dy n (k+a.rows)with q|q
  . rw[nf (.inl q)];obtain⟨r1,r2⟩:=iha k1 hn'.1 (λg hg=>hok g (aC.2 (.inl hg))) (h0:=h0) h1 q;exact⟨r1,λg hg=>aC.2 (.inl (r2 g hg))⟩
  . obtain⟨r1,r2⟩:=ihb k2 hn'.2.1 (λg hg=>hok g (aC.2 (.inr hg))) (h0:=gQ a x.1 k h0) q (by omega);exact⟨r1,λg hg=>aC.2 (.inr (r2 g hg))⟩
 |s t e _=>
  rintro l vs F k ψ ⟨v,rfl,ho,hv⟩ hn hok h0 n h1 h2;simp only[O.rows]at h2;have:n=k:=by omega
  subst this;simp only[gQ,aj];rw[hv];exact⟨Bh ho hn hok,λg hg=>by unfold Bk at hg;rwa[Bi ho]at hg⟩
theorem gF.apart :∀{o:O}{x:El o.u}{vs:List Value}{F:List Nat}{k:Nat}{ψ:Nat->Value},gF S w o x vs F k ψ->F.Nodup->∀{n m g:Nat},n<m->k≤n->m<k+o.rows->Bk (ψ n) g->¬Bk (ψ m) g:=by
 intro o
 induction o with
 |d u=>intro x vs F k ψ _ _ n m g h0 h1 h2;simp only[O.rows]at h2;omega
 |p a b iha ihb=>
  rintro x vs F k ψ ⟨v1,v2,F1,F2,e1,rfl,k1,k2⟩ hn n m g h0 h1 h2;simp only[O.rows]at h2;have hn':=cQ.1 hn;rcases dy m (k+a.rows)with q|q
  . exact iha k1 hn'.1 h0 h1 q
  . rcases dy n (k+a.rows)with p|p
    . intro hb1 hb2;have q1:=(k1.rel (φ:=ψ) (h:=λ_=>.free) (ok:=λ_=>True) hn'.1 (λ_ _=>trivial) (h0:=λ_=>.free) h1 p).2 g hb1;have q2:=(k2.rel (φ:=ψ) (h:=λ_=>.free) (ok:=λ_=>True) hn'.2.1 (λ_ _=>trivial) (h0:=λ_=>.free) q (by omega)).2 g hb2;exact hn'.2.2 g q1 g q2 rfl
    . exact ihb k2 hn'.2.1 h0 p (by omega)
 |s t e _=>intro x vs F k ψ _ _ n m g h0 h1 h2;simp only[O.rows]at h2;omega
theorem gF.cells :∀{o:O}{x:El o.u}{vs:List Value}{F:List Nat}{k:Nat}{ψ:Nat->Value},gF S w o x vs F k ψ->(∀n,k≤n->n<k+o.rows->φ n=ψ n/\(h n).live=true)->aW (aQ S w φ h) (lk o x k) vs:=by
 intro o
 induction o with
 |d u=>rintro x vs F k ψ ⟨hr,_⟩ _;exact cP hr
 |p a b iha ihb=>
  rintro x vs F k ψ ⟨v1,v2,F1,F2,rfl,_,k1,k2⟩ hq;simp only[O.rows]at hq;exact(iha k1 λn h1 h2=>hq n h1 (by omega)).append (ihb k2 λn h1 h2=>hq n (by omega) (by omega))
 |s t e _=>rintro l vs F k ψ ⟨v,rfl,ho,hv⟩ hq;obtain⟨q1,q2⟩:=hq k (aM k) (by simp[O.rows]);obtain⟨A,i,c,hs⟩:=ho.slice;exact⟨⟨q2,by rw[q1,hv,LP ho],A,i,c,hs⟩,trivial⟩
theorem gF.length :∀{o:O}{x:El o.u}{vs:List Value}{F:List Nat}{k:Nat}{ψ:Nat->Value},gF S w o x vs F k ψ->vs.length=o.u.n:=by
 intro o
 induction o with
 |d u=>rintro x vs F k ψ ⟨hr,_⟩;exact hr.length
 |p a b iha ihb=>rintro x vs F k ψ ⟨v1,v2,F1,F2,rfl,_,k1,k2⟩;simp[iha k1,ihb k2,U.n]
 |s t e _=>rintro l vs F k ψ ⟨v,rfl,ho,hv⟩;rfl
theorem sx {ok:Nat->Prop}(hb:∀n,ci S w φ h ok (φ n) (h n))(hap:∀n m g,n≠m->(h n).mut=true->(h m).mut=true->Bk (φ n) g->¬Bk (φ m) g):∀{o:O}{cs r:List C}{vs:List Value}{x:El o.u}{ns:List Nat},
    aW (aQ S w φ h) cs vs->cr h o cs=some (x,r,ns)->∃v1 v2 F,vs=v1++v2/\aW (aQ S w φ h) r v2/\bC S w o x v1 F/\(∀g,g∈F↔∃n∈ns,Bk (φ n) g)/\(ns.Nodup->F.Nodup)/\∀n∈ns,(h n).mut=true:=by
 intro o
 induction o with
 |d u=>
  intro cs r vs x ns ha hc;simp only[cr]at hc;split at hc
  . rename_i y hd hr;injection hc with hc;injection hc with h1 hc;injection hc with h2 h3;subst h1;subst h2;subst h3;refine⟨vs.take u.n,vs.drop u.n,[],(gJ _ _).symm,ha.drop _,⟨ef hb (λ_ h=>h) (ha.take _) hd λn hn hrow=> ?_,rfl⟩,λg=>⟨λh=>(by cases h),λ⟨_,h,_⟩=>(by cases h)⟩,λ_=>nG,λn hn=>by cases hn⟩;have:=dj.1 hr n hn;rw[hrow]at this;cases this
  . cases hc
 |p a b iha ihb=>
  intro cs r vs x ns ha hc;simp only[cr]at hc;split at hc
  . rename_i y r1 ns1 e1;split at hc
    . rename_i z r2 ns2 e2;injection hc with hc;injection hc with h1 hc;injection hc with h2 h3;subst h1;subst h2;subst h3;obtain⟨v1,v2,F1,rfl,ha2,hr1,hF1,hn1,hm1⟩:=iha ha e1;obtain⟨v3,v4,F2,rfl,ha3,hr2,hF2,hn2,hm2⟩:=ihb ha2 e2;refine⟨v1++v3,v4,F1++F2,by simp,ha3,⟨v1,v3,F1,F2,rfl,rfl,hr1,hr2⟩,λg=> ?_,λhn=> ?_,λn hn=>(aC.1 hn).elim (hm1 n) (hm2 n)⟩
      . rw[aC,hF1,hF2];constructor
        . rintro(⟨n,h1,h2⟩|⟨n,h1,h2⟩)
          . exact⟨n,aC.2 (.inl h1),h2⟩
          . exact⟨n,aC.2 (.inr h1),h2⟩
        . rintro⟨n,h1,h2⟩;exact(aC.1 h1).elim (λh=>.inl ⟨n,h,h2⟩) (λh=>.inr ⟨n,h,h2⟩)
      . have hn:=cQ.1 hn;refine cQ.2 ⟨hn1 hn.1,hn2 hn.2.1,λg q1 g' q2 e=> ?_⟩;subst e;obtain⟨n,p1,p2⟩:=(hF1 g).1 q1;obtain⟨m,p3,p4⟩:=(hF2 g).1 q2;exact hap n m g (hn.2.2 n p1 m p3) (hm1 n p1) (hm2 m p3) p2 p4
    . cases hc
  . cases hc
 |s t e _=>
  intro cs r vs x ns ha hc;simp only[cr]at hc;split at hc
  . rename_i r';split at hc
    . rename_i hp;injection hc with hc;injection hc with h1 hc;injection hc with h2 h3;subst h1;subst h2;subst h3
      cases vs with
      |nil=>exact ha.elim
      |cons v vs=>have hv:v=.slice none 0 0:=ha.1;subst hv;rw[dM]at hp;exact⟨[_],vs,[],rfl,ha.2,⟨_,rfl,[],[],hp,World.ownsRow_nil _ _ _ _,⟨rfl,rfl⟩,rfl⟩,λg=>⟨λh=>(by cases h),λ⟨_,h,_⟩=>(by cases h)⟩,λ_=>nG,λn hn=>by cases hn⟩
    . cases hc
  . rename_i n r';split at hc
    . rename_i l hl;injection hc with hc;injection hc with h1 hc;injection hc with h2 h3;subst h1;subst h2;subst h3
      cases vs with
      |nil=>exact ha.elim
      |cons v vs=>obtain⟨_,hv,_⟩:=ha.1;obtain⟨k1,k2,k3⟩:=Aa hl (hb n);refine⟨[v],vs,pf (φ n),rfl,ha.2,⟨v,rfl,by rw[hv];exact k2⟩,λg=>⟨λh=>⟨n,bG.2 rfl,h⟩,λ⟨m,h1,h2⟩=>by rw[bG.1 h1]at h2;exact h2⟩,λ_=>k3,λm hm=>by rw[bG.1 hm];exact k1⟩
    . cases hc
  . cases hc
theorem HU :∀{o:O}{cs r:List C}{x:El o.u}{ns:List Nat},cr h o cs=some (x,r,ns)->∀c∈r,c∈cs:=by
 intro o
 induction o with
 |d u=>
  intro cs r x ns hc;simp only[cr]at hc;split at hc
  . injection hc with hc;injection hc with h1 hc;injection hc with h2 h3;subst h2;exact λc hc=>List.mem_of_mem_drop hc
  . cases hc
 |p a b iha ihb=>
  intro cs r x ns hc;simp only[cr]at hc;split at hc
  . rename_i y r1 ns1 e1;split at hc
    . rename_i z r2 ns2 e2;injection hc with hc;injection hc with h1 hc;injection hc with h2 h3;subst h2;exact λc hc=>iha e1 c (ihb e2 c hc)
    . cases hc
  . cases hc
 |s t e _=>
  intro cs r x ns hc;simp only[cr]at hc;split at hc
  . split at hc
    . injection hc with hc;injection hc with h1 hc;injection hc with h2 h3;subst h2;exact λc hc=>aG.2 (.inr hc)
    . cases hc
  . split at hc
    . injection hc with hc;injection hc with h1 hc;injection hc with h2 h3;subst h2;exact λc hc=>aG.2 (.inr hc)
    . cases hc
  . cases hc
theorem HT :∀{o:O}{cs r:List C}{x:El o.u}{ns:List Nat},cr h o cs=some (x,r,ns)->∀n∈ns,.row n∈cs/\(h n).isRow=true:=by
 intro o
 induction o with
 |d u=>
  intro cs r x ns hc;simp only[cr]at hc;split at hc
  . injection hc with hc;injection hc with h1 hc;injection hc with h2 h3;subst h3;intro n hn;cases hn
  . cases hc
 |p a b iha ihb=>
  intro cs r x ns hc;simp only[cr]at hc;split at hc
  . rename_i y r1 ns1 e1;split at hc
    . rename_i z r2 ns2 e2;injection hc with hc;injection hc with h1 hc;injection hc with h2 h3;subst h3;intro n hn;rcases aC.1 hn with q|q
      . exact iha e1 n q
      . obtain⟨k1,k2⟩:=ihb e2 n q;exact⟨HU e1 _ k1,k2⟩
    . cases hc
  . cases hc
 |s t e _=>
  intro cs r x ns hc;simp only[cr]at hc;split at hc
  . split at hc
    . injection hc with hc;injection hc with h1 hc;injection hc with h2 h3;subst h3;intro n hn;cases hn
    . cases hc
  . rename_i m r';split at hc
    . rename_i l hl;injection hc with hc;injection hc with h1 hc;injection hc with h2 h3;subst h3;intro n hn;rw[bG.1 hn];refine⟨aG.2 (.inl rfl),?_⟩;cases e2:h m<;>rw[e2]at hl<;>first|rfl|cases hl
    . cases hc
  . cases hc
theorem BJ :∀{o:O}{cs r:List C}{x:El o.u}{ns:List Nat},cr h o cs=some (x,r,ns)->cs.length=o.u.n+r.length:=by
 intro o
 induction o with
 |d u=>
  intro cs r x ns hc;simp only[cr]at hc;split at hc
  . rename_i y hd _;injection hc with hc;injection hc with h1 hc;injection hc with h2 h3;subst h2;have:=kY hd;rw[da]at this;rw[eV];show _=u.n+_;omega
  . cases hc
 |p a b iha ihb=>
  intro cs r x ns hc;simp only[cr]at hc;split at hc
  . rename_i y r1 ns1 e1;split at hc
    . rename_i z r2 ns2 e2;injection hc with hc;injection hc with h1 hc;injection hc with h2 h3;subst h2;rw[iha e1,ihb e2];show _=a.u.n+b.u.n+_;omega
    . cases hc
  . cases hc
 |s t e _=>
  intro cs r x ns hc;simp only[cr]at hc;split at hc
  . split at hc
    . injection hc with hc;injection hc with h1 hc;injection hc with h2 h3;subst h2;simp[U.n];omega
    . cases hc
  . split at hc
    . injection hc with hc;injection hc with h1 hc;injection hc with h2 h3;subst h2;simp[U.n];omega
    . cases hc
  . cases hc
theorem jp :∀{ns:List Nat},distinct ns=true->ns.Nodup
 |[],_=>nG
 |n::r,h=>by simp only[distinct,aH]at h;refine fC.2 ⟨λq=> ?_,jp h.2⟩;have h1:=h.1;rw[ji,List.any_eq_false]at h1;exact h1 n q (jj n)
theorem aY.vz {cx:Cx}(m:aY cx φ S h w){φ':Nat->Value}{h':Nat->B}(N:Nat->Prop)
    (same:∀n,¬N n->h' n=h n/\φ' n=φ n)
    (live:∀n,(h n).live=true->(h' n).live=true/\pv (φ' n)=pv (φ n))
    (rel:∀n,N n->ci S w φ' h' cx.ok (φ' n) (h' n))
    (src:∀n g,N n->(h' n).mut=true->Bk (φ' n) g->∃k,N k/\(h k).mut=true/\Bk (φ k) g)
    (apart:∀n k g,n<k->N n->N k->(h' n).mut=true->(h' k).mut=true->Bk (φ' n) g->¬Bk (φ' k) g)
    (aB:∀n,N n->bH n=false)
    (kept:∀n,N n->bZ n=true->(h n).live=true):aY cx φ' S h' w:=by
 have apart':∀n k g,n≠k->N n->N k->(h' n).mut=true->(h' k).mut=true->Bk (φ' n) g->¬Bk (φ' k) g:=by
  intro n k g hnk h1 h2 h3 h4 h5 h6;rcases dy n k with q|q
  . exact apart n k g q h1 h2 h3 h4 h5 h6
  . exact apart k n g (by omega) h2 h1 h4 h3 h6 h5
 constructor
 . intro n;by_cases e:N n
   . exact rel n e
   . obtain⟨e1,e2⟩:=same n e;rw[e1,e2];exact ci.mono (λ_ h=>h) (λ_ _=>rfl) live (λ_ _ _=>rfl) (m.b n)
 . intro n k g hnk h1 h2 hb1 hb2;by_cases en:N n
   . by_cases ek:N k
     . exact apart' n k g hnk en ek h1 h2 hb1 hb2
     . obtain⟨e1,e2⟩:=same k ek;rw[e1]at h2;rw[e2]at hb2;obtain⟨j,q1,q2,q3⟩:=src n g en h1 hb1;exact m.apart j k g (by rintro rfl;exact ek q1) q2 h2 q3 hb2
   . obtain⟨e1,e2⟩:=same n en;rw[e1]at h1;rw[e2]at hb1;by_cases ek:N k
     . obtain⟨j,q1,q2,q3⟩:=src k g ek h2 hb2;exact m.apart j n g (by rintro rfl;exact en q1) q2 h1 q3 hb1
     . obtain⟨e1,e2⟩:=same k ek;rw[e1]at h2;rw[e2]at hb2;exact m.apart n k g hnk h1 h2 hb1 hb2
 . intro n g h1 hb1;by_cases en:N n
   . obtain⟨j,q1,q2,q3⟩:=src n g en h1 hb1;exact m.sep j g q2 q3
   . obtain⟨e1,e2⟩:=same n en;rw[e1]at h1;rw[e2]at hb1;exact m.sep n g h1 hb1
 . exact m.inS
 . exact m.lt
 . intro g hg hl;have hn:¬N (cU g):=λq=>by rw[aB _ q]at hg;cases hg
   obtain⟨e1,e2⟩:=same _ hn;rw[e1]at hl;rw[e2];exact m.aB g hg hl
 . intro n hg;have hn:¬N n:=λq=>by rw[aB _ q]at hg;cases hg
   rw[(same n hn).1];exact m.gl n hg
 . intro n hk hl;by_cases en:N n
   . have:=kept n en hk;rw[(live n this).2];exact m.kp n hk this
   . obtain⟨e1,e2⟩:=same n en;rw[e1]at hl;rw[e2];exact m.kp n hk hl
 . exact m.keep
end
variable {P : Program}
structure bE (S S':Nat->Prop)(w w':World)(φ φ':Nat->Value)(h h':Nat->B):Prop where
 s:∀g,S g->S' g
 k:∀g,S g->w'.heap[g]? =w.heap[g]?
 l:∀n,(h n).live=true->(h' n).live=true/\pv (φ' n)=pv (φ n)
theorem bE.refl (S:Nat->Prop)(w:World)(φ:Nat->Value)(h:Nat->B):bE S S w w φ φ h h:=⟨λ_ h=>h,λ_ _=>rfl,λ_ h=>⟨h,rfl⟩⟩
theorem bE.trans {S1 S2 S3:Nat->Prop}{w1 w2 w3:World}{φ1 φ2 φ3:Nat->Value}{h1 h2 h3:Nat->B}(a:bE S1 S2 w1 w2 φ1 φ2 h1 h2)(b:bE S2 S3 w2 w3 φ2 φ3 h2 h3):bE S1 S3 w1 w3 φ1 φ3 h1 h3:=
 ⟨λg hg=>b.s g (a.s g hg),λg hg=>(b.k g (a.s g hg)).trans (a.k g hg),λn hn=>⟨(b.l n (a.l n hn).1).1,(b.l n (a.l n hn).1).2.trans (a.l n hn).2⟩⟩
theorem bE.OX {S S':Nat->Prop}{w w':World}{φ φ':Nat->Value}{h h':Nat->B}(l:bE S S' w w' φ φ' h h'){x:V}{v:Value}(hr:bB S w φ h x v):bB S' w' φ' h' x v:=hr.mono l.s l.k l.l
theorem bE.OW {S S':Nat->Prop}{w w':World}{φ φ':Nat->Value}{h h':Nat->B}(l:bE S S' w w' φ φ' h h'){x:C}{v:Value}(hr:aQ S w φ h x v):aQ S' w' φ' h' x v:=hr.mono l.s l.k l.l
def eT (P:Program):TypeDesc->TK->Prop
 |.int k,.int k'=>k=k'
 |.bool,.bool=>True
 |.string,.str=>True
 |.struct fields,.struct fs=>fields.toList.map (λf=>(f.offset,f.type))=fs/\∀f∈fields.toList,∃i,P.info? f.type=some i/\i.size≠0
 |.array n e,.arr n' e'=>n=n'/\e=e'
 |.slice e,.sl e'=>e=e'
 |.pointer e,.ptr e'=>e=e'
 |.func ..,.func=>True
 |.map k e,.map k' e'=>k=k'/\e=e'
 |d,.other=>match d with
  |.struct _|.array .. =>False
  |_=>True
 |_,_=>False
def isA :Value->Bool
 |.agg _=>true
 |_=>false
structure dm (P:Program)(t:TypeId)(i:TI):Prop where
 und:∃d,P.underlying t=some d/\eT P d i.k
 info:∃inf z,P.info? t=some inf/\inf.size=i.size/\inf.bytes=i.bytes/\inf.zero=some z/\z.cells.size=i.size/\(i.zero.length=i.size->dF z.cells.toList=some i.zero)
 u:0<i.u.n->i.u.n=i.size/\0<i.bytes
 eq:i.eq=true->P.stoodInHeld t=false/\P.eqGuardType P.depth t=false/\∀d,P.underlying t=some d->match d with
  |.struct fields=>∀f∈fields.toList,f.name≠ "_"
  |_=>True
 zagg:∀inf z,P.info? t=some inf->inf.zero=some z->isA z=i.agg
def cg (P:Program)(tt:TT):Prop:=∀t i,assoc tt t=some i->dm P t i
theorem dm.kd {t:TypeId}{i:TI}(ok:dm P t i)(w:World):(sizeOf t).run P w=.ok i.size w:=by obtain⟨inf,z,h1,h2,_⟩:=ok.info;simp[sizeOf,typeInfo,h1,h2]
theorem dm.zI {t:TypeId}{i:TI}(ok:dm P t i)(w:World):(isAgg t).run P w=.ok i.agg w:=by obtain⟨d,h1,h2⟩:=ok.und;simp only[isAgg,Sem.run_bind,run_underlying h1,Result.andThen_ok];cases d<;>cases hk:i.k<;>rw[hk]at h2<;>simp[eT]at h2<;>simp[TI.agg,hk]
theorem n9 {off n:Nat}{cs cs':List C}(h:jx off n cs=some cs'):off+n≤cs.length/\cs'=(cs.drop off).take n:=by
 unfold jx at h
 cases e:Nat.ble (off+n) cs.length with
 |true=>rw[e]at h;simp at h;exact⟨nu e,h.symm⟩
 |false=>rw[e]at h;simp at h
theorem jF {off:Nat}{new cs cs':List C}(h:pL off new cs=some cs'):off+new.length≤cs.length/\cs'=cs.take off++new++cs.drop (off+new.length):=by
 unfold pL at h
 cases e:Nat.ble (off+new.length) cs.length with
 |true=>rw[e]at h;simp at h;exact⟨nu e,by simp[<-h]⟩
 |false=>rw[e]at h;simp at h
section
variable {S : Nat → Prop} {w : World} {φ : Nat → Value} {h : Nat → B}
theorem Mr (n:Nat):Nat.ble n n=true:=by rw[Nat.ble_eq];exact aM n
theorem ju {t:TypeId}{i:TI}(ok:dm P t i){a:Addr}{vs:List Value}{off:Nat}{cs cs':List C}{v:V}(hm:Mem w a vs)(ha:aW (aQ S w φ h) cs vs)
    (ht:jx off i.size cs=some cs') (hv:asV i.agg cs'=some v):∃v',(Instr.loadAt t (.pointer (some (a.add off)))).run P w=.ok v' w/\bB S w φ h v v':=by
 obtain⟨hle,rfl⟩:=n9 ht;have ha':=(ha.drop off).take i.size;have hm':Mem w (a.add off) ((vs.drop off).take i.size):=(hm.drop off).take _;have hl:((vs.drop off).take i.size).length=i.size:=by rw[<-ha'.length];simp;omega
 generalize (cs.drop off).take i.size=cs' at*;generalize (vs.drop off).take i.size=vs' at*;simp only[Instr.loadAt,Instr.sureAddr,loadVar,Sem.run_bind,Sem.run_pure,Result.andThen_ok,ok.zI]
 cases hag:i.agg with
 |true=>
  rw[hag]at hv;simp[asV]at hv;subst hv;have hr:=run_loadCells_list (P:=P) w (a.add off) vs' hm';rw[hl]at hr;simp[ok.kd,hr];exact⟨_,rfl,by simpa using ha'⟩
 |false=>
  rw[hag]at hv
  cases cs' with
  |nil=>simp[asV]at hv
  |cons c r=>cases r with
   |cons=>simp[asV]at hv
   |nil=>
    simp[asV]at hv;subst hv
    cases vs' with
    |nil=>exact ha'.elim
    |cons x r=>cases r with
     |cons=>exact ha'.2.elim
     |nil=>have:=hm' 0 x rfl;rw[add_zero]at this;simp[this];exact ha'.1
theorem LQ {ok:Nat->Prop}{n j:Nat}{e:Nat}{u:U}{l:List (El u)}{x:El u}{g:Nat}(hb:ci S w φ h ok (φ n) (.row e u l))(hg:blk (pv (φ n))=some g)(hx:l[j]? =some x):
    ∃vs,Rep S w u x vs/\Mem w ⟨g,j*u.n,none⟩ vs:=by
 rw[jD hb]at hg;obtain⟨_,flat,ho,hl,_⟩:=hb;obtain⟨v1,v2,v3,rfl,h1,h2,_⟩:=hl.at hx;refine⟨v2,h2,?_⟩;have hm:Mem w ⟨g,0,none⟩ (v1++(v2++v3)):=ho.cells (by rw[<-eH ho];exact hg);have:=hm.part.2.part.1;rw[c8,h1,dc]at this;exact this
theorem O0 {ok:Nat->Prop}{n j:Nat}{e:Nat}{u:U}{l:List (El u)}{x:El u}{g:Nat}(hb:ci S w φ h ok (φ n) (.ro e u l))(hg:blk (pv (φ n))=some g)(hx:l[j]? =some x):
    ∃vs,Rep S w u x vs/\Mem w ⟨g,j*u.n,none⟩ vs:=by
 obtain⟨_,flat,cap,hl,_,hv⟩:=hb;obtain⟨v1,v2,v3,rfl,h1,h2,_⟩:=hl.at hx;refine⟨v2,h2,?_⟩;rcases hv with⟨hv,_⟩|⟨g',hv,hm,_⟩
 . rw[hv]at hg;cases hg
 . rw[hv]at hg;cases hg;have:=hm.part.2.part.1;rw[c8,h1,dc]at this;exact this
theorem nZ {ρ:Type}{cx:Cx}{st:St}{t:TypeId}{i:TI}(ok:dm P t i)(m:aY cx φ S st.h w){a:C}{av:Value}(hr:aQ S w φ st.h a av){κ:V->Option ρ}{r:ρ}(hl:load st i a κ=some r):
    ∃v v',κ v=some r/\(Instr.loadAt t av).run P w=.ok v' w/\bB S w φ st.h v v':=by
 unfold load at hl
 cases a with
 |ptr n j sz off=>
  obtain⟨_,g,hg,rfl⟩:=hr;have hn:=m.b n;simp only at hl;split at hl
  . rename_i t' cs e;rw[e]at hn;obtain⟨g',vals,hφ,hh,ha,_⟩:=hn;rw[hφ]at hg;cases hg;split at hl
    . rename_i cs' ht;split at hl
      . rename_i v hv;have hm:Mem w ⟨g',0,none⟩ vals.toList:=λq x hx=>by rw[c8,cell_of_row w g' _ vals t' (0,0) hh];simpa using hx
        obtain⟨v',h1,h2⟩:=ju ok hm ha ht hv;rw[c8]at h1;exact⟨v,v',hl,by simpa using h1,h2⟩
      . cases hl
    . cases hl
  . rename_i e0 u l e;rw[e]at hn
    cases hsz:Nat.beq sz u.n with
    |false=>rw[hsz]at hl;cases hl
    |true=>
     have:=aR hsz;subst this;rw[hsz]at hl;simp only[ab]at hl;obtain⟨x,hx,hl⟩:=bR.1 hl;obtain⟨vs,hrep,hm⟩:=LQ hn hg hx;split at hl
     . rename_i cs ht;split at hl
       . rename_i v hv;obtain⟨v',h1,h2⟩:=ju ok hm (cP hrep) ht hv;rw[c8]at h1;exact⟨v,v',hl,h1,h2⟩
       . cases hl
     . cases hl
  . rename_i e0 u l e;rw[e]at hn
    cases hsz:Nat.beq sz u.n with
    |false=>rw[hsz]at hl;cases hl
    |true=>
     have:=aR hsz;subst this;rw[hsz]at hl;simp only[ab]at hl;obtain⟨x,hx,hl⟩:=bR.1 hl;obtain⟨vs,hrep,hm⟩:=O0 hn hg hx;split at hl
     . rename_i cs ht;split at hl
       . rename_i v hv;obtain⟨v',h1,h2⟩:=ju ok hm (cP hrep) ht hv;rw[c8]at h1;exact⟨v,v',hl,h1,h2⟩
       . cases hl
     . cases hl
  . rename_i e0 o l e;rw[e]at hn;obtain⟨s,F,hφ,⟨flat,F',hun,how,hol,hF⟩,_,_⟩:=hn;rw[hφ.1]at hg
    cases hsz:Nat.beq sz o.u.n&&o.plain off i.size with
    |false=>rw[hsz]at hl;cases hl
    |true=>
     rw[hsz]at hl;rw[aH]at hsz;have:=aR hsz.1;subst this;simp only[ab]at hl;obtain⟨x,hx,hl⟩:=bR.1 hl;split at hl
     . rename_i cs ht;split at hl
       . rename_i v hv;obtain⟨v1,v2,v3,F1,F2,F3,rfl,_,hl1,hrep,_,_⟩:=hol.at hx;have hm:Mem w ⟨g,0,none⟩ (v1++(v2++v3)):=how.cells (by rw[<-eH how];exact hg);have hm:=hm.part.2.part.1;rw[c8,hl1,dc]at hm;have hm:=(hm.drop off).take i.size;rw[c8]at hm;obtain⟨hle,rfl⟩:=n9 ht;have hlen:(((cB o.u x).drop off).take i.size).length=i.size:=by simp only[da,eV];omega
         obtain⟨v',h1,h2⟩:=ju (off:=0) ok hm (hrep.cells hsz.2) (by unfold jx;rw[hlen,dc,Mr];simp only[ab,List.drop_zero];rw[List.take_of_length_le (by omega)]) hv;rw[add_zero]at h1;exact⟨v,v',hl,h1,h2⟩
       . cases hl
     . cases hl
  . rename_i e0 o l k cs e;rw[e]at hn;obtain⟨s,F,v1,v2,v3,F1,F3,hφ,hun,hi,how,ho1,hcs,hv2,_⟩:=hn;rw[hφ,cF]at hg
    cases hsz:Nat.beq sz o.u.n&&Nat.beq j k with
    |false=>rw[hsz]at hl;cases hl
    |true=>
     rw[hsz]at hl;rw[aH]at hsz;have:=aR hsz.1;subst this;have:=aR hsz.2;subst this;simp only[ab]at hl;split at hl
     . rename_i cs' ht;split at hl
       . rename_i v hv;have hm:Mem w ⟨g,0,none⟩ (v1++(v2++v3)):=how.cells (by rw[<-eH how];exact hg);have hm:=hm.part.2.part.1;have hl1:v1.length=j*o.u.n:=by have:=ho1.length;rw[this,da,jN (o7 hi)]
         rw[c8,hl1,dc]at hm;obtain⟨v',h1,h2⟩:=ju ok hm hcs ht hv;rw[c8]at h1;exact⟨v,v',hl,h1,h2⟩
       . cases hl
     . cases hl
  . cases hl
 |dptr u x off=>
  obtain⟨b,cs,rfl,hrep,hm,_⟩:=hr;simp only at hl;split at hl
  . rename_i cs' ht;split at hl
    . rename_i v hv;obtain⟨v',h1,h2⟩:=ju ok hm (cP hrep) ht hv;exact⟨v,v',hl,h1,h2⟩
    . cases hl
  . cases hl
 |_=>cases hl
theorem sI {h:Nat->B}:∀{m k:Nat},xY h k m=true->∀n,k≤n->n<k+m->h n=.free/\bZ n=false
 |0,k,_,n,h1,h2=>by omega
 |m+1,k,hf,n,h1,h2=>by
  simp only[xY,aH]at hf;rcases dy k n with q|q
  . exact sI hf.2 n q (by omega)
  . have:n=k:=by omega
    subst this;have:=hf.1;cases e:h n<;>cases e2:bZ n<;>rw[e,e2]at this<;>first|exact⟨rfl,rfl⟩|cases this
theorem ir {α:Type}(a b c:List α):(a++(b++c)).Perm (b++(a++c)):=by rw[<-bL,<-bL];exact List.Perm.append_right _ List.perm_append_comm
theorem aY.V5 {cx:Cx}(m:aY cx φ S h w){n t j k:Nat}{o:O}{l:List (El o.u)}{x:El o.u}(e:h n=.own t o l)(hx:l[j]? =some x)(hf:xY h k o.rows=true):
    ∃φ',aY cx φ' S (gQ o x k (upd h n (.opn t o l j (lk o x k)))) w/\bE S S w w φ φ' h (gQ o x k (upd h n (.opn t o l j (lk o x k)))):=by
 have hn:=m.b n;rw[e]at hn;obtain⟨s,F,hφ,⟨flat,F',hun,how,hol,hF⟩,hnd,hok⟩:=hn;obtain⟨v1,v2,v3,F1,F2,F3,rfl,hF',hl1,hrep,ht,hd⟩:=hol.at hx;subst hF';obtain⟨ψ,hψ⟩:=hrep.opened k;have hfr:=sI hf
 have hnk:n<k\/k+o.rows≤n:=by
  rcases dy n k with q|q
  . exact .inl q
  . rcases dy n (k+o.rows)with p|p
    . have:=(hfr n q p).1;rw[e]at this;cases this
    . exact .inr p
 have hjl:j<l.length:=by
  rcases dy j l.length with q|q
  . exact q
  . rw[iE q]at hx;cases hx
 have hperm:F.Perm (F2++((blk s).toList++(F1++F3))):=by rw[hF];exact(List.Perm.append_left _ (ir F1 F2 F3)).trans (ir _ _ _)
 have hnd2:=hperm.nodup_iff.1 hnd;have hnd3:=cQ.1 hnd2;have inF:∀g,g∈F2->g∈F:=λg hg=>hperm.mem_iff.2 (aC.2 (.inl hg))
 have inF':∀g,g∈(blk s).toList++(F1++F3)->g∈F:=λg hg=>hperm.mem_iff.2 (aC.2 (.inr hg))
 generalize hh':gQ o x k (upd h n (.opn t o l j (lk o x k)))=h';have hout:∀i,(i<k\/k+o.rows≤i)->i≠n->h' i=h i:=λi hi hne=>by rw[<-hh',nf hi,az _ _ hne]
 have hat:h' n=.opn t o l j (lk o x k):=by rw[<-hh',nf hnk,aj]
 let φ':Nat->Value:=λi=>if k≤i/\i<k+o.rows then ψ i else if i=n then eK s ((blk s).toList++(F1++F3))else φ i
 have φin:∀i,k≤i->i<k+o.rows->φ' i=ψ i:=λi h1 h2=>ah ⟨h1,h2⟩
 have φn:φ' n=eK s ((blk s).toList++(F1++F3)):=by show(if _ then _ else _)=_;rw[ae (by omega),ah rfl]
 have φout:∀i,(i<k\/k+o.rows≤i)->i≠n->φ' i=φ i:=λi h1 h2=>by show(if _ then _ else _)=_;rw[ae (by omega),ae h2]
 have mutin:∀i,k≤i->i<k+o.rows->(h' i).mut=true:=λi h1 h2=>by rw[<-hh'];exact LA h1 h2
 have live:∀i,(h i).live=true->(h' i).live=true/\pv (φ' i)=pv (φ i):=by
  intro i hi
  have hio:i<k\/k+o.rows≤i:=by
   rcases dy i k with q|q
   . exact .inl q
   . rcases dy i (k+o.rows)with p|p
     . rw[(hfr i q p).1]at hi;cases hi
     . exact .inr p
  by_cases en:i=n
  . subst en;rw[hat,φn,hφ.1,cF];exact⟨rfl,rfl⟩
  . rw[hout i hio en,φout i hio en];exact⟨hi,rfl⟩
 have hinn:∀i,k≤i/\i<k+o.rows\/i=n->(h' i).mut=true->∀g,Bk (φ' i) g->g∈F:=by
  rintro i (⟨h1,h2⟩|rfl) _ g hg
  . rw[φin i h1 h2]at hg;exact inF g ((hψ.rel (φ:=φ) (h:=h) (ok:=λ_=>True) hnd3.1 (λ_ _=>trivial) (h0:=h) h1 h2).2 g hg)
  . rw[φn]at hg;unfold Bk at hg;rw[cw]at hg;exact inF' g hg
 refine⟨φ',m.vz (λi=>k≤i/\i<k+o.rows\/i=n) ?_ live ?_ ?_ ?_ ?_ ?_,⟨λ_ h=>h,λ_ _=>rfl,live⟩⟩
 . intro i hi
   have hio:i<k\/k+o.rows≤i:=by
    rcases dy i k with q|q
    . exact .inl q
    . rcases dy i (k+o.rows)with p|p
      . exact absurd (.inl ⟨q,p⟩) hi
      . exact .inr p
   have hin:i≠n:=λe=>hi (.inr e)
   exact⟨hout i hio hin,φout i hio hin⟩
 . rintro i (⟨h1,h2⟩|rfl)
   . rw[φin i h1 h2,<-hh'];exact(hψ.rel hnd3.1 (λg hg=>hok g (inF g hg)) h1 h2).1
   . rw[φn,hat];refine⟨s,_,v1,v2,v3,F1,F3,rfl,hun,hjl,how,ht,hψ.cells λi h1 h2=>⟨φin i h1 h2,bM (mutin i h1 h2)⟩,hψ.length,hd,rfl,hnd3.2.1,λg hg=>hok g (inF' g hg)⟩
 . intro i g hi hm hb;exact⟨n,.inr rfl,by rw[e];rfl,by unfold Bk;rw[hφ.2];exact hinn i hi hm g hb⟩
 . rintro i i' g hlt h1 h2 h3 h4 hb1 hb2;have key:∀i,k≤i->i<k+o.rows->Bk (φ' i) g->g∈F2:=λi h1 h2 hg=>by rw[φin i h1 h2]at hg;exact(hψ.rel (φ:=φ) (h:=h) (ok:=λ_=>True) hnd3.1 (λ_ _=>trivial) (h0:=h) h1 h2).2 g hg
   have keyn:Bk (φ' n) g->g∈(blk s).toList++(F1++F3):=λhg=>by rw[φn]at hg;unfold Bk at hg;rwa[cw]at hg
   rcases h1 with⟨p1,p2⟩|rfl
   . rcases h2 with⟨q1,q2⟩|rfl
     . rw[φin i p1 p2]at hb1;rw[φin i' q1 q2]at hb2;exact hψ.apart hnd3.1 hlt p1 q2 hb1 hb2
     . exact hnd3.2.2 g (key i p1 p2 hb1) g (keyn hb2) rfl
   . rcases h2 with⟨q1,q2⟩|rfl
     . exact hnd3.2.2 g (key i' q1 q2 hb2) g (keyn hb1) rfl
     . omega
 . rintro i (⟨h1,h2⟩|rfl)
   . exact ia (hfr i h1 h2).2
   . cases hg:bH i with
     |false=>rfl
     |true=>have:=(m.gl i hg).2;rw[e]at this;cases this
 . rintro i (⟨h1,h2⟩|rfl) hk
   . rw[(hfr i h1 h2).2]at hk;cases hk
   . rw[e];rfl
theorem zz {ρ:Type}{cx:Cx}{st:St}{t:TypeId}{i:TI}(ok:dm P t i)(m:aY cx φ S st.h w){a:C}{av:Value}(hr:aQ S w φ st.h a av){d:Nat}{κ:V->St->Option ρ}{r:ρ}(hl:mB st i a d κ=some r):
    ∃v v' φ' h',κ v {st with h:=h'}=some r/\(Instr.loadAt t av).run P w=.ok v' w/\aY cx φ' S h' w/\bE S S w w φ φ' st.h h'/\bB S w φ' h' v v':=by
 have plain:∀{a:C}{av:Value},aQ S w φ st.h a av->(load st i a λv=>κ v st)=some r->∃v v' φ' h',κ v {st with h:=h'}=some r/\(Instr.loadAt t av).run P w=.ok v' w/\aY cx φ' S h' w/\bE S S w w φ φ' st.h h'/\bB S w φ' h' v v':=by intro a av hr hl;obtain⟨v,v',h1,h2,h3⟩:=nZ ok m hr hl;exact⟨v,v',φ,st.h,h1,h2,m,bE.refl _ _ _ _,h3⟩
 unfold mB at hl;split at hl
 . rename_i n j sz off;split at hl
   . rename_i t0 o l e;split at hl
     . rename_i hc hf;rw[aH]at hc;have:=aR hc.1;subst this;obtain⟨x,hx,hl⟩:=bR.1 hl;obtain⟨φ',m',lat⟩:=m.V5 e hx hf;have hr':=lat.OW hr;generalize hh:gQ o x (2000000+d*100) (upd st.h n (.opn t0 o l j (lk o x (2000000+d*100))))=h' at*
       have hn:h' n=.opn t0 o l j (lk o x (2000000+d*100)):=by
        rw[<-hh,nf,aj];rcases dy n (2000000+d*100)with q|q
        . exact .inl q
        . rcases dy n (2000000+d*100+o.rows)with p|p
          . have:=(sI hf n q p).1;rw[e]at this;cases this
          . exact .inr p
       have hlo:load (⟨st.t,h'⟩:St) i (.ptr n j o.u.n off) (λv=>κ v {st with h:=h'})=some r:=by unfold load;simp only[hn,jj,dL,ab];exact hl
       obtain⟨v,v',h1,h2,h3⟩:=nZ (st:=⟨st.t,h'⟩) ok m' hr' hlo;exact⟨v,v',φ',h',h1,h2,m',lat,h3⟩
     . cases hl
   . exact plain hr hl
 . exact plain hr hl
theorem iD :∀(a b:List C),bn (a++b)=bn a++bn b
 |[],_=>rfl
 |c::a,b=>by cases c<;>simp[bn,iD a b]
theorem zH :∀{u:U}{x:El u},bn (cB u x)=[]:=by
 intro u
 induction u with
 |pair a b iha ihb=>intro x;simp[cB,iD,iha,ihb]
 |_=>intro x;rfl
theorem lu :∀(n:Nat)(a:List C),∀k∈bn (a.take n),k∈bn a
 |0,_=>by simp[bn]
 |_+1,[]=>by simp[bn]
 |n+1,c::a=>by cases c<;>simp[bn]<;>first|exact λk h=>lu n a k h|exact λk h=>.inr (lu n a k h)
theorem ls :∀(n:Nat)(a:List C),∀k∈bn (a.drop n),k∈bn a
 |0,_=>by simp
 |_+1,[]=>by simp[bn]
 |n+1,c::a=>by cases c<;>simp[bn]<;>first|exact λk h=>ls n a k h|exact λk h=>.inr (ls n a k h)
theorem qP {t:TypeId}{i:TI}(ok:dm P t i){g o:Nat}{cur:Array Value}{t0:TypeId}{vv:Value}(hg:w.heap[g]? =some (.cells cur t0 (0,0)))(hs:vv.cells.size=i.size)(hfit:o+vv.cells.size≤cur.size)
    (h1:∀v∈vv.cells.toList,v.oneCell'=true):
    (Instr.storeAt t (.pointer (some ⟨g,o,none⟩)) vv).run P w=.ok () (w.setRow g (cur.toList.take o++vv.cells.toList++cur.toList.drop (o+vv.cells.size)).toArray):=by
 have hst:=run_storeCells_at P g o t0 vv.cells.toList 0 cur w hg (by simpa using hfit) h1;simp only[Nat.add_zero,cX]at hst;simp[Instr.storeAt,Instr.sureAddr,storeVar,ok.kd,hs];rw[hs,bL]at hst;exact hst
end
theorem lv (w:World)(g:Nat)(cs:Array Value):(w.setRow g cs).os=w.os/\(w.setRow g cs).tape=w.tape/\(w.setRow g cs).output=w.output/\(w.setRow g cs).heap.size=w.heap.size/\∀k,k≠g->(w.setRow g cs).heap[k]? =w.heap[k]? :=
 ⟨rfl,rfl,rfl,by simp,λk hk=>setRow_other w g k cs hk⟩
theorem bE.ec {cx:Cx}{φ:Nat->Value}{S:Nat->Prop}{h:Nat->B}{w:World}(m:aY cx φ S h w){w':World}
    (old:Option Nat) (hold:∀n,old=some n->(h n).mut=true)
    (hb:∀g,g<w.heap.size->(∀n,old=some n->¬Bk (φ n) g)->w'.heap[g]? =w.heap[g]?)
    (dst:Nat) (b:B) (v:Value) (hbl:b.live=true) (hfree:old=some dst/\pv v=pv (φ dst)\/(h dst).live=false/\bZ dst=false):
    bE S S w w' φ (upd φ dst v) h (upd (giveUp h old) dst b):=by
 refine⟨λ_ h=>h,λg hg=>hb g (m.lt g hg) λn hn hbk=>m.sep n g (hold n hn) hbk hg,λn hn=> ?_⟩;by_cases e:n=dst
 . subst e;rw[aj,aj];refine⟨hbl,?_⟩;rcases hfree with⟨_,hv⟩|⟨hf,_⟩
   . rw[hv]
   . rw[hf]at hn;cases hn
 . rw[az _ _ e,az _ _ e];refine⟨?_,rfl⟩
   cases old with
   |none=>exact hn
   |some n0=>
    by_cases e2:n=n0
    . subst e2;simp only[giveUp,aj];rfl
    . simp only[giveUp,az _ _ e2];exact hn
theorem bE.uw {φ:Nat->Value}{S S':Nat->Prop}{h:Nat->B}{w:World}(hS:∀g,S g->S' g)(ns:List Nat):bE S S' w w φ φ h (aZ h ns):=
 ⟨hS,λ_ _=>rfl,λn hn=>⟨by rw[rR];exact hn,rfl⟩⟩
theorem iu {α:Type}:∀(l:List α)(i:Nat)(x y:α),l[i]? =some x->l.set i y=l.take i++y::l.drop (i+1)
 |[],i,x,y,h=>by simp at h
 |a::l,0,x,y,h=>by simp
 |a::l,i+1,x,y,h=>by simp at h;simp[iu l i x y h]
theorem wy (L V2 A B:List Value)(o:Nat)(h:o+A.length≤V2.length)(pre post:List Value)(hL:L=pre++(V2++post)):
    L.take (pre.length+o)++A++L.drop (pre.length+o+A.length)=pre++((V2.take o++A++V2.drop (o+A.length))++post):=by
 subst hL;rw[List.take_append,List.drop_append,List.drop_append,List.take_append];simp[Nat.add_sub_cancel_left,uP,show pre.length≤pre.length+o+A.length by omega,show pre.length+o+A.length-pre.length=o+A.length by omega,show o-V2.length=0 by omega,show o+A.length-V2.length=0 by omega,List.take_of_length_le]
theorem sW {w:World}{t:TypeId}{i:TI}(ok:dm P t i){e size n g a off:Nat}{s vv:Value}{v1 v2 v3:List Value}(ho:w.ownsRow 0 e size s n (v1++(v2++v3)))(hg:blk s=some g)
    (hvs:vv.cells.size=i.size) (h1:∀v∈vv.cells.toList,v.oneCell'=true) (hl1:v1.length=a) (hfit:off+vv.cells.size≤v2.length):
    ∃w',(Instr.storeAt t (.pointer (some ⟨g,a+off,none⟩)) vv).run P w=.ok () w'/\w'.os=w.os/\w'.tape=w.tape/\w'.output=w.output/\w'.heap.size=w.heap.size/\(∀k,k≠g->w'.heap[k]? =w.heap[k]?)/\
     w'.ownsRow 0 e size s n (v1++((v2.take off++vv.cells.toList++v2.drop (off+vv.cells.size))++v3)):=by
 rcases ho.2 with⟨h0,_⟩|⟨g',cap,cur,hφ,_,hh,hcl,hcm,hcs,htk⟩
 . rw[h0]at hg;cases hg
 . rw[hφ]at hg;cases hg;have hlen:=ho.1;have hcap:n*size≤cur.size:=by rw[hcs];exact uR _ hcl
   simp only[aV]at hlen;have hvs':vv.cells.size=vv.cells.toList.length:=(cX).symm;have hfit':a+off+vv.cells.size≤cur.size:=by omega
   have hrun:=qP ok (o:=a+off) hh hvs hfit' h1;have hcur:cur.toList=v1++(v2++(v3++cur.toList.drop (n*size))):=by have:=gJ (n*size) cur.toList;rw[htk]at this;simpa using this.symm
   have hsp:=wy cur.toList v2 vv.cells.toList [] off (by omega) v1 _ hcur;rw[hl1,<-hvs']at hsp;rw[hsp]at hrun;generalize hnew:(v1++((v2.take off++vv.cells.toList++v2.drop (off+vv.cells.size))++(v3++cur.toList.drop (n*size)))).toArray=nv at hrun;have hnv:nv.toList=v1++((v2.take off++vv.cells.toList++v2.drop (off+vv.cells.size))++(v3++cur.toList.drop (n*size))):=by rw[<-hnew]
   have hmid:(v2.take off++vv.cells.toList++v2.drop (off+vv.cells.size)).length=v2.length:=by simp;omega
   obtain⟨f1,f2,f3,f4,f5⟩:=lv w g' nv;refine⟨_,hrun,f1,f2,f3,f4,f5,⟨?_,.inr ⟨g',cap,nv,hφ,eC _,setRow_heap w g' cur nv e (0,0) hh,hcl,hcm,?_,?_⟩⟩⟩
   . simp only[aV]at hmid⊢;omega
   . have e4:nv.size=cur.size:=by have e5:=congrArg List.length hnv;have e6:=congrArg List.length hcur;simp only[cX,aV]at e5 e6 hmid;omega
     rw[e4,hcs]
   . rw[hnv];have hlen2:(v1++((v2.take off++vv.cells.toList++v2.drop (off+vv.cells.size))++v3)).length=n*size:=by simp only[aV]at hmid⊢;omega
     generalize cur.toList.drop (n*size)=tl;rw[<-hlen2,show v1++((v2.take off++vv.cells.toList++v2.drop (off+vv.cells.size))++(v3++tl))=(v1++((v2.take off++vv.cells.toList++v2.drop (off+vv.cells.size))++v3))++tl by simp];exact lC
theorem zS {ρ:Type}{cx:Cx}{φ:Nat->Value}{S:Nat->Prop}{w:World}{st:St}{h:Nat->B}{t:TypeId}{i:TI}(ok:dm P t i)(m:aY cx φ S h w){n j sz off g:Nat}(hg:blk (pv (φ n))=some g)
    {new:List C} {vv:Value} (hcells:aW (aQ S w φ h) new vv.cells.toList) (hsz:new.length=i.size) (hfz:∀k∈bn new,(h k).isRow=false) {κ:St->Option ρ} {r:ρ} (hl:gm st h sz off j n new κ=some r):
    ∃st' w',κ st'=some r/\(Instr.storeAt t (.pointer (some ⟨g,j*sz+off,none⟩)) vv).run P w=.ok () w'/\aY cx φ S st'.h w'/\st'.t=st.t/\bE S S w w' φ φ h st'.h:=by
 unfold gm at hl;have hn:=m.b n;split at hl
 . rename_i e0 u l e;rw[e]at hn
   cases hsu:Nat.beq sz u.n with
   |false=>rw[hsu]at hl;cases hl
   |true=>
    have:=aR hsu;subst this;rw[hsu]at hl;simp only[ab]at hl;obtain⟨x,hx,hl⟩:=bR.1 hl;split at hl
    . rename_i cs ht;obtain⟨hle,rfl⟩:=jF ht;split at hl
      . rename_i y hy;have hvs:vv.cells.size=i.size:=by have:=hcells.length;rw[<-hsz,this,cX]
        have h1:=hcells.one;obtain⟨hun,flat,ho,hfl,hok⟩:=hn;obtain⟨v1,v2,v3,hflat,hl1,hrep,hr1,hr3⟩:=hfl.at hx;subst hflat;rcases ho.2 with⟨h0,_⟩|⟨g',cap,cur,hφ,_,hh,hcl,hcm,hcs,htk⟩
        . rw[h0]at hg;cases hg
        . rw[hφ]at hg;cases hg;have hv2:v2.length=u.n:=hrep.length
          have hjl:j<l.length:=by
           rcases dy j l.length with q|q
           . exact q
           . rw[iE q]at hx;cases hx
          have hjn:j*u.n+u.n≤l.length*u.n:=by rw[<-Nat.succ_mul];exact uR _ hjl
          have hcap:l.length*u.n≤cur.size:=by rw[hcs];exact uR _ hcl
          have hon:off+new.length≤u.n:=by rw[mH]at hle;exact hle
          have hvn:vv.cells.toList.length=new.length:=hcells.length.symm;have hvs':vv.cells.size=vv.cells.toList.length:=(cX).symm;have hfit:j*u.n+off+vv.cells.size≤cur.size:=by omega
          have hrun:=qP ok (o:=j*u.n+off) hh hvs hfit h1;have hcur:cur.toList=v1++(v2++(v3++cur.toList.drop (l.length*u.n))):=by have:=gJ (l.length*u.n) cur.toList;rw[htk]at this;simpa using this.symm
          have hsp:=wy cur.toList v2 vv.cells.toList [] off (by omega) v1 _ hcur;rw[hl1,<-hvs']at hsp;rw[hsp]at hrun;generalize hnew:(v1++((v2.take off++vv.cells.toList++v2.drop (off+vv.cells.size))++(v3++cur.toList.drop (l.length*u.n)))).toArray=nv at hrun;have hnv:nv.toList=v1++((v2.take off++vv.cells.toList++v2.drop (off+vv.cells.size))++(v3++cur.toList.drop (l.length*u.n))):=by rw[<-hnew]
          have hmid:(v2.take off++vv.cells.toList++v2.drop (off+vv.cells.size)).length=u.n:=by simp;omega
          obtain⟨f1,f2,f3,f4,f5⟩:=lv w g' nv;have hmut:(h n).mut=true:=by rw[e];rfl
          have hbk:Bk (φ n) g':=by rw[hφ];exact ig.2 rfl
          have hkeep:∀g,g<w.heap.size->(∀n',some n=some n'->¬Bk (φ n') g)->(w.setRow g' nv).heap[g]? =w.heap[g]? :=λg _ hne=>f5 g λeg=>hne n rfl (by rw[eg];exact hbk)
          have hlat:=bE.ec m (w':=w.setRow g' nv) (some n) (λk hk=>by cases hk;exact hmut) hkeep n (.row e0 u (l.set j y)) (φ n) rfl (.inl ⟨rfl,rfl⟩);have hkS:∀g,S g->(w.setRow g' nv).heap[g]? =w.heap[g]? :=hlat.k
          have hm':=m.change (w':=w.setRow g' nv) f1 f2 f3 (fM f4.symm) (some n) (λk hk=>by cases hk;exact hmut) hkeep n (.row e0 u (l.set j y)) (φ n) rfl (.inl ⟨rfl,rfl⟩)
           (λg hg=>.inl ⟨n,rfl,hg⟩) (λh' hh'=>by
            refine⟨hun,v1++((v2.take off++vv.cells.toList++v2.drop (off+vv.cells.size))++v3),⟨?_,.inr ⟨g',cap,nv,?_,eC _,setRow_heap w g' cur nv e0 (0,0) hh,?_,hcm,?_,?_⟩⟩,?_,hok⟩
            . have hlen3:v3.length=(l.length-(j+1))*u.n:=by have:=hr3.length;simpa using this
              have hx2:l.length*u.n=j*u.n+u.n+(l.length-(j+1))*u.n:=by rw[<-Nat.succ_mul,<-kM];congr 1;omega
              simp only[aV,hl1,ch]at hmid⊢;omega
            . rw[hφ,ch]
            . rw[ch];exact hcl
            . have e4:nv.size=cur.size:=by have e5:=congrArg List.length hnv;have e6:=congrArg List.length hcur;simp only[cX,aV]at e5 e6 hmid;omega
              rw[e4,hcs]
            . rw[hnv,ch];have hlen:(v1++((v2.take off++vv.cells.toList++v2.drop (off+vv.cells.size))++v3)).length=l.length*u.n:=by have hlen0:=ho.1;simp only[aV]at hmid hlen0⊢;omega
              generalize cur.toList.drop (l.length*u.n)=tl;rw[<-hlen,show v1++((v2.take off++vv.cells.toList++v2.drop (off+vv.cells.size))++(v3++tl))=(v1++((v2.take off++vv.cells.toList++v2.drop (off+vv.cells.size))++v3))++tl by simp];exact lC
            . rw[iu l j x y hx];have hmono:∀(q:El u)(vs:List Value),Rep S w u q vs->Rep S (w.setRow g' nv) u q vs:=λq vs hq=>Rep.mono (λ_ h=>h) hkS hq
              refine(hr1.mono hmono).append ⟨_,_,rfl,hmono _ _ ?_,hr3.mono hmono⟩;have hbase:=cP (φ:=φ) (h:=h) hrep;have hall:=((hbase.take off).append hcells).append (hbase.drop (off+new.length));rw[hvs',hvn];refine ef m.b (λ_ h=>h) hall hy λk hk hrow=> ?_
              simp only[iD,aC]at hk;have hno:∀k,k∈bn (cB u x)->False:=λk hk=>by rw[zH]at hk;cases hk
              rcases hk with(hk|hk)|hk
              . exact(hno k (lu _ _ k hk)).elim
              . rw[hfz k hk]at hrow;cases hrow
              . exact(hno k (ls _ _ k hk)).elim)
          rw[show giveUp h (some n)=upd h n .gone from rfl,iI,kg]at hm' hlat;exact⟨_,_,hl,hrun,hm',rfl,hlat⟩
      . cases hl
    . cases hl
 . cases hl
theorem BN (ns:List Nat):∀(h:Nat->B),∀k∈ns,(aZ h ns k).isRow=false:=by
 induction ns with
 |nil=>simp
 |cons n r ih=>
  intro h k hk;rw[aZ];by_cases hr:k∈r
  . exact ih _ k hr
  . rcases aG.1 hk with rfl|h1
    . have key:∀(r:List Nat)(h:Nat->B)(k:Nat),(h k).isRow=false->(aZ h r k).isRow=false:=by
       intro r
       induction r with
       |nil=>intro h k hk;exact hk
       |cons n r ih=>
        intro h k hk;rw[aZ];refine ih _ k ?_;by_cases e:k=n
        . subst e;rw[aj];cases h k<;>rfl
        . rw[az _ _ e];exact hk
      refine key r _ k ?_;rw[aj];cases h k<;>rfl
    . exact absurd h1 hr
section
variable {cx : Cx} {φ : Nat → Value} {S : Nat → Prop} {h : Nat → B} {w : World}
theorem pB {ns:List Nat}:∀{h:Nat->B}{n:Nat},n∈ns->cC h ns n=.gone:=by
 induction ns with
 |nil=>intro h n hn;cases hn
 |cons k r ih=>
  intro h n hn;simp only[cC];by_cases q:n∈r
  . exact ih q
  . rcases aG.1 hn with rfl|p
    . have key:∀(r:List Nat)(h:Nat->B)(n:Nat),n∉r->cC h r n=h n:=by
       intro r
       induction r with
       |nil=>intro h n _;rfl
       |cons k r ih=>intro h n hn;simp only[cC];rw[ih _ _ λq=>hn (aG.2 (.inr q)),az _ _ λe=>hn (aG.2 (.inl e))]
      rw[key r _ n q,aj]
    . exact absurd p q
theorem kz {ns:List Nat}:∀{h:Nat->B}{n:Nat},n∉ns->cC h ns n=h n:=by
 induction ns with
 |nil=>intro h n _;rfl
 |cons k r ih=>intro h n hn;simp only[cC];rw[ih λq=>hn (aG.2 (.inr q)),az _ _ λe=>hn (aG.2 (.inl e))]
theorem aY.Kq (m:aY cx φ S h w)(n:Nat):∃φ',aY cx φ' S (qV h n) w/\bE S S w w φ φ' h (qV h n):=by
 have stay:∃φ',aY cx φ' S h w/\bE S S w w φ φ' h h:=⟨φ,m,bE.refl _ _ _ _⟩;unfold qV;split
 . rename_i t o l i cs e;split
   . rename_i x ns hc;split
     . rename_i hd;have hn:=m.b n;rw[e]at hn;obtain⟨s,F,v1,v2,v3,F1,F3,hφ,hun,hi,how,ho1,hcs,hv2,ho3,hF,hnd,hok⟩:=hn;obtain⟨a1,a2,F2,hv,hr,hrep,hF2,hnd2,hm2⟩:=sx m.b m.apart hcs hc
       have:a2=[]:=by
        cases a2 with
        |nil=>rfl
        |cons=>exact hr.elim
       subst this;rw[eO]at hv;subst hv;have hdn:ns.Nodup:=jp hd;have hnn:n∉ns:=λq=>by obtain⟨q1,q2⟩:=HT hc n q;rw[e]at q2;cases q2
       have hF2d:∀g∈F2,g∉F:=λg hg hgF=>by obtain⟨k,hk,hbk⟩:=(hF2 g).1 hg;exact m.apart k n g (by rintro rfl;exact hnn hk) (hm2 k hk) (by rw[e];rfl) hbk (by rw[hφ];unfold Bk;rw[cw];exact hgF)
       have hperm:((blk s).toList++(F1++(F2++F3))).Perm (F2++F):=by rw[hF];exact(List.Perm.append_left _ (ir F1 F2 F3)).trans (ir _ _ _)
       have hnd':((blk s).toList++(F1++(F2++F3))).Nodup:=hperm.nodup_iff.2 (cQ.2 ⟨hnd2 hdn,hnd,λg h1 g' h2 e=>hF2d g h1 (by rw[e];exact h2)⟩)
       have hin:∀g,g∈(blk s).toList++(F1++(F2++F3))->(∃k∈ns,Bk (φ k) g)\/Bk (φ n) g:=λg hg=>by
        rcases aC.1 (hperm.mem_iff.1 hg)with q|q
        . exact .inl ((hF2 g).1 q)
        . exact .inr (by rw[hφ];unfold Bk;rw[cw];exact q)
       have hout:∀k,k≠n->k∉ns->upd (cC h ns) n (.own t o (l.set i x)) k=h k:=λk h1 h2=>by rw[az _ _ h1,kz h2]
       have hgone:∀k∈ns,upd (cC h ns) n (.own t o (l.set i x)) k=.gone:=λk hk=>by rw[az _ _ (by rintro rfl;exact hnn hk),pB hk]
       have live:∀k,(h k).live=true->(upd (cC h ns) n (.own t o (l.set i x)) k).live=true/\pv (upd φ n (eK s ((blk s).toList++(F1++(F2++F3)))) k)=pv (φ k):=by
        intro k hk;by_cases ek:k=n
        . subst ek;rw[aj,aj,hφ,cF,cF];exact⟨rfl,rfl⟩
        . rw[az φ _ ek];by_cases q:k∈ns
          . rw[hgone k q];exact⟨rfl,rfl⟩
          . rw[hout k ek q];exact⟨hk,rfl⟩
       have hmm:∀k,k=n\/k∈ns->(h k).mut=true:=λk hk=>hk.elim (λq=>by rw[q,e];rfl) (hm2 k)
       have hxi:l[i]? =some (l[i]'hi):=aL hi;refine⟨_,m.vz (λk=>k=n\/k∈ns) ?_ live ?_ ?_ ?_ ?_ ?_,⟨λ_ h=>h,λ_ _=>rfl,live⟩⟩
       . intro k hk;have h1:k≠n:=λq=>hk (.inl q)
         exact⟨hout k h1 λq=>hk (.inr q),az _ _ h1⟩
       . rintro k (rfl|hk)
         . rw[aj,aj];refine⟨s,_,⟨cF s _,cw s _⟩,⟨_,_,hun,by rw[ch];exact how,?_,rfl⟩,hnd',λg hg=> ?_⟩
           . rw[iu l i _ x hxi];exact ho1.append ⟨_,_,_,_,rfl,rfl,hrep,ho3⟩
           . rcases hin g hg with⟨j,hj,hbj⟩|hbj
             . exact gj (hm2 j hj) (m.b j) hbj
             . exact gj (hmm k (.inl rfl)) (m.b k) hbj
         . rw[hgone k hk];trivial
       . rintro k g (rfl|hk) hm hb
         . rw[aj]at hb;unfold Bk at hb;rw[cw]at hb;rcases hin g hb with⟨j,hj,hbj⟩|hbj
           . exact⟨j,.inr hj,hm2 j hj,hbj⟩
           . exact⟨k,.inl rfl,hmm k (.inl rfl),hbj⟩
         . rw[hgone k hk]at hm;cases hm
       . rintro k j g hlt hk hj h1 h2;rcases hk with rfl|hk
         . rcases hj with rfl|hj
           . omega
           . rw[hgone j hj]at h2;cases h2
         . rw[hgone k hk]at h1;cases h1
       . intro k hk
         cases hg:bH k with
         |false=>rfl
         |true=>have:=(m.gl k hg).2;rw[hmm k hk]at this;cases this
       . intro k hk _;exact bM (hmm k hk)
     . exact stay
   . exact stay
 . exact stay
theorem aY.fJ (ns:List Nat):∀{φ:Nat->Value}{h:Nat->B},aY cx φ S h w->∃φ',aY cx φ' S (xI h ns) w/\bE S S w w φ φ' h (xI h ns):=by
 induction ns with
 |nil=>intro φ h m;exact⟨φ,m,bE.refl _ _ _ _⟩
 |cons n r ih=>intro φ h m;obtain⟨φ1,m1,l1⟩:=m.Kq n;obtain⟨φ2,m2,l2⟩:=ih m1;exact⟨φ2,m2,l1.trans l2⟩
end
theorem F5 {ρ:Type}{cx:Cx}{φ:Nat->Value}{S:Nat->Prop}{w:World}{st:St}{t:TypeId}{i:TI}(ok:dm P t i)(m:aY cx φ S st.h w){a:C}{av:Value}(hr:aQ S w φ st.h a av)
    {v:V} {vv:Value} (hv:bB S w φ st.h v vv) {κ:St->Option ρ} {r:ρ} {wh:Bool} (hl:store wh st i a v κ=some r):
    ∃st' φ' S' w',κ st'=some r/\(Instr.storeAt t av vv).run P w=.ok () w'/\aY cx φ' S' st'.h w'/\st'.t=st.t/\bE S S' w w' φ φ' st.h st'.h:=by
 unfold store at hl
 cases hc:v.cells with
 |none=>rw[hc]at hl;cases hl
 |some new=>
  rw[hc]at hl;simp only at hl;have hcells:=lq hv hc
  cases hsz:Nat.beq new.length i.size with
  |false=>rw[hsz]at hl;cases hl
  |true=>
   have hsz':=aR hsz;rw[hsz]at hl;simp only[ab]at hl;have hvs:vv.cells.size=i.size:=by rw[<-hsz',hcells.length,cX]
   have h1:=hcells.one
   cases a with
   |ptr n j sz off=>
    obtain⟨hlive,g,hg,rfl⟩:=hr;have hn:=m.b n;simp only at hl;split at hl
    . rename_i t' cs e;rw[e]at hn;obtain⟨g',vals,hφ,hh,ha,hok⟩:=hn;rw[hφ]at hg;cases hg;split at hl
      . rename_i cs' ht;obtain⟨hle,rfl⟩:=jF ht;have hfit:0*sz+off+vv.cells.size≤vals.size:=by have e3:=ha.length;have e4:vals.toList.length=vals.size:=cX;omega
        have hrun:=qP ok (o:=0*sz+off) hh hvs hfit h1;have e2:vv.cells.size=new.length:=by rw[hvs,hsz']
        rw[e2,show 0*sz+off=off by omega]at hrun;generalize hnew:(vals.toList.take off++vv.cells.toList++vals.toList.drop (off+new.length)).toArray=nv at hrun;have hnv:nv.toList=vals.toList.take off++vv.cells.toList++vals.toList.drop (off+new.length):=by rw[<-hnew]
        obtain⟨f1,f2,f3,f4,f5⟩:=lv w g' nv;have hmut:(st.h n).mut=true:=by rw[e];rfl
        have hbk:Bk (φ n) g':=by rw[hφ];exact ic.2 rfl
        have hkeep:∀g,g<w.heap.size->(∀n',some n=some n'->¬Bk (φ n') g)->(w.setRow g' nv).heap[g]? =w.heap[g]? :=λg _ hne=>f5 g λeg=>hne n rfl (by rw[eg];exact hbk)
        have hlat:=bE.ec m (w':=w.setRow g' nv) (some n) (λk hk=>by cases hk;exact hmut) hkeep n (.box t' (cs.take off++new++cs.drop (off+new.length))) (φ n) rfl (.inl ⟨rfl,rfl⟩)
        have hm':=m.change (w':=w.setRow g' nv) f1 f2 f3 (fM f4.symm) (some n) (λk hk=>by cases hk;exact hmut) hkeep n (.box t' (cs.take off++new++cs.drop (off+new.length))) (φ n) rfl (.inl ⟨rfl,rfl⟩)
         (λg hg=>.inl ⟨n,rfl,hg⟩) (λh' hh'=>by
          subst hh';refine⟨g',nv,hφ,setRow_heap w g' vals nv t' (0,0) hh,?_,hok⟩;rw[hnv]
          exact(((ha.take off).append hcells).append (ha.drop (off+new.length))).mono λc x hcx=>aQ.mono hlat.s hlat.k hlat.l hcx)
        rw[show giveUp st.h (some n)=upd st.h n .gone from rfl,iI,kg]at hm' hlat;refine⟨_,φ,S,_,hl,?_,hm',rfl,hlat⟩;rw[show 0*sz+off=off by omega];exact hrun
      . cases hl
    . rename_i e;obtain⟨S',hS,m',_⟩:=m.aZ (bn new);have hlat0:=bE.uw (φ:=φ) (h:=st.h) (w:=w) hS (bn new);obtain⟨st',w',h1,h2,h3,h4,h5⟩:=zS ok m' hg (hcells.mono λc x hcx=>hlat0.OW hcx) hsz' (BN _ _) hl;exact⟨st',φ,S',w',h1,h2,h3,h4,hlat0.trans h5⟩
    . rename_i e0 o l e;split at hl
      . rename_i hbeq;have:=aR hbeq;subst this;replace hl:=bR.1 hl;obtain⟨x,hx,hl⟩:=hl;split at hl
        . rename_i y hy
          obtain⟨c,rfl⟩:∃c,new=[c]:=by
           cases new with
           |nil=>cases hy
           |cons c r=>cases r with
            |nil=>exact⟨c,rfl⟩
            |cons=>cases hy
          replace hy:setAt o x off c=some y:=hy;rw[e]at hn;obtain⟨s,F,hφ,⟨flat,F',hun,how,hol,hF⟩,hnd,hok⟩:=hn;rw[hφ.1]at hg;obtain⟨v1,v2,v3,F1,F2,F3,rfl,hF',hl1,hrep,ht,hd⟩:=hol.at hx
          have hv1:∃x,vv.cells.toList=[x]:=by
           have:=hcells.length
           cases hq:vv.cells.toList with
           |nil=>rw[hq]at this;cases this
           |cons x r=>cases r with
            |nil=>exact⟨x,rfl⟩
            |cons y r=>rw[hq]at this;cases this
          obtain⟨xv,hxv⟩:=hv1;have hc:aQ S w φ st.h c xv:=by rw[hxv]at hcells;exact hcells.1
          obtain⟨hoff,hrep'⟩:=hrep.set hy hc;have h1':vv.cells.size=1:=by rw[<-cX,hxv];rfl
          obtain⟨w',hrun,f1,f2,f3,f4,f5,how'⟩:=sW ok how hg hvs h1 hl1 (off:=off) (by rw[h1',hrep.length];omega);have hset:v2.take off++vv.cells.toList++v2.drop (off+vv.cells.size)=v2.set off xv:=by rw[hxv,h1'];have:v2[off]? =some (v2[off]'(by rw[hrep.length];exact hoff)):=aL _;rw[iu v2 off _ xv this,bL];rfl
          rw[hset]at how';have hmut:(st.h n).mut=true:=by rw[e];rfl
          have hgF:g∈F:=by rw[hF];exact aC.2 (.inl (by rw[hg];exact bG.2 rfl))
          have hbk:Bk (φ n) g:=by unfold Bk;rw[hφ.2];exact hgF
          have hkeep:∀g',g'<w.heap.size->(∀n',some n=some n'->¬Bk (φ n') g')->w'.heap[g']? =w.heap[g']? :=λg' _ hne=>f5 g' λeg=>hne n rfl (by rw[eg];exact hbk)
          have hlat:=bE.ec m (w':=w') (some n) (λk hk=>by cases hk;exact hmut) hkeep n (.own e0 o (l.set j y)) (φ n) rfl (.inl ⟨rfl,rfl⟩);have hnF:∀g'∈F1++(F2++F3),g'≠g:=by intro g' hg' eq;subst eq;rw[hF]at hnd;exact(cQ.1 hnd).2.2 g' (by rw[hg];exact bG.2 rfl) g' (by rw[hF'];exact hg') rfl
          have hm':=m.change (w':=w') f1 f2 f3 (fM f4.symm) (some n) (λk hk=>by cases hk;exact hmut) hkeep n (.own e0 o (l.set j y)) (φ n) rfl (.inl ⟨rfl,rfl⟩)
           (λg hg=>.inl ⟨n,rfl,hg⟩) (λh' hh'=>by
            refine⟨s,F,hφ,⟨_,F',hun,by rw[ch];exact how',?_,hF⟩,hnd,hok⟩;rw[iu l j x y hx,hF'];have mono:∀(q:El o.u)(vs:List Value)(G:List Nat),(∀g'∈G,g'≠g)->bC S w o q vs G->bC S w' o q vs G:=λq vs G hG hq=>hq.mono (λ_ h=>h) hlat.k λg' hg'=>f5 g' (hG g' hg')
            refine(ht.mono mono λg' hg'=>hnF g' (aC.2 (.inl hg'))).append ⟨_,_,_,_,rfl,rfl,mono _ _ _ (λg' hg'=>hnF g' (aC.2 (.inr (aC.2 (.inl hg'))))) hrep',hd.mono mono λg' hg'=>hnF g' (aC.2 (.inr (aC.2 (.inr hg'))))⟩)
          rw[show giveUp st.h (some n)=upd st.h n .gone from rfl,iI,kg]at hm' hlat;exact⟨_,φ,S,_,hl,hrun,hm',rfl,hlat⟩
        . have hlq:(wh&&Nat.beq off 0&&Nat.beq new.length o.u.n)=true/\κ {st with h:=qV (upd st.h n (.opn e0 o l j new)) n}=some r:=by
           cases hq:wh&&Nat.beq off 0&&Nat.beq new.length o.u.n with
           |false=>rw[hq]at hl;cases hl
           |true=>rw[hq]at hl;exact⟨rfl,hl⟩
          clear hl;obtain⟨hq,hl⟩:=hlq;rw[aH,aH]at hq;have hoff:=aR hq.1.2;subst hoff;have hnl:=aR hq.2;rw[e]at hn;obtain⟨s,F,hφ,⟨flat,F',hun,how,hol,hF⟩,hnd,hok⟩:=hn;rw[hφ.1]at hg;obtain⟨v1,v2,v3,F1,F2,F3,rfl,hF',hl1,hrep,ht,hd⟩:=hol.at hx
          have hjl:j<l.length:=by
           rcases dy j l.length with q|q
           . exact q
           . rw[iE q]at hx;cases hx
          have hv2:=hrep.length;have hvn:vv.cells.toList.length=o.u.n:=by rw[<-hcells.length,hnl]
          obtain⟨w',hrun,f1,f2,f3,f4,f5,how'⟩:=sW ok how hg hvs h1 hl1 (off:=0) (by rw[<-cX,hvn,hv2];omega);have hset:v2.take 0++vv.cells.toList++v2.drop (0+vv.cells.size)=vv.cells.toList:=by rw[<-cX,hvn,uP (by rw[hv2];omega)];simp
          rw[hset]at how';have hmut:(st.h n).mut=true:=by rw[e];rfl
          have hgF:g∈F:=by rw[hF];exact aC.2 (.inl (by rw[hg];exact bG.2 rfl))
          have hbk:Bk (φ n) g:=by unfold Bk;rw[hφ.2];exact hgF
          have hperm:F.Perm (F2++((blk s).toList++(F1++F3))):=by rw[hF,hF'];exact(List.Perm.append_left _ (ir F1 F2 F3)).trans (ir _ _ _)
          have hnd2:=cQ.1 (hperm.nodup_iff.1 hnd);have inF:∀g',g'∈(blk s).toList++(F1++F3)->g'∈F:=λg' hg'=>hperm.mem_iff.2 (aC.2 (.inr hg'))
          have hnF:∀g'∈F1++F3,g'≠g:=by intro g' hg' eq;subst eq;exact(cQ.1 hnd2.2.1).2.2 g' (by rw[hg];exact bG.2 rfl) g' hg' rfl
          have hkeep:∀g',g'<w.heap.size->(∀n',some n=some n'->¬Bk (φ n') g')->w'.heap[g']? =w.heap[g']? :=λg' _ hne=>f5 g' λeg=>hne n rfl (by rw[eg];exact hbk)
          have hpv:pv (eK s ((blk s).toList++(F1++F3)))=pv (φ n):=by rw[cF,hφ.1]
          have hlat:=bE.ec m (w':=w') (some n) (λk hk=>by cases hk;exact hmut) hkeep n (.opn e0 o l j new) (eK s ((blk s).toList++(F1++F3))) rfl (.inl ⟨rfl,hpv⟩)
          have hm1:=m.change (w':=w') f1 f2 f3 (fM f4.symm) (some n) (λk hk=>by cases hk;exact hmut) hkeep n (.opn e0 o l j new) (eK s ((blk s).toList++(F1++F3))) rfl (.inl ⟨rfl,hpv⟩)
           (λg' hg'=>.inl ⟨n,rfl,by unfold Bk at hg'⊢;rw[cw]at hg';rw[hφ.2];exact inF g' hg'⟩) (λh' hh'=>by
            subst hh';have mono:∀(q:El o.u)(vs:List Value)(G:List Nat),(∀g'∈G,g'≠g)->bC S w o q vs G->bC S w' o q vs G:=λq vs G hG hq=>hq.mono (λ_ h=>h) hlat.k λg' hg'=>f5 g' (hG g' hg')
            exact⟨s,_,v1,vv.cells.toList,v3,F1,F3,rfl,hun,hjl,how',ht.mono mono λg' hg'=>hnF g' (aC.2 (.inl hg')),hcells.mono λc x hcx=>aQ.mono hlat.s hlat.k hlat.l hcx,hvn,hd.mono mono λg' hg'=>hnF g' (aC.2 (.inr hg')),rfl,hnd2.2.1,λg' hg'=>hok g' (inF g' hg')⟩)
          rw[show giveUp st.h (some n)=upd st.h n .gone from rfl,iI]at hm1 hlat;obtain⟨φ2,hm2,hlat2⟩:=hm1.Kq n;exact⟨_,φ2,S,_,hl,hrun,hm2,rfl,hlat.trans hlat2⟩
      . cases hl
    . rename_i e0 o l k cs e
      cases hsz2:Nat.beq sz o.u.n&&Nat.beq j k with
      |false=>rw[hsz2]at hl;cases hl
      |true=>
       rw[hsz2]at hl;rw[aH]at hsz2;have:=aR hsz2.1;subst this;have:=aR hsz2.2;subst this;simp only[ab]at hl;split at hl
       . rename_i cs' ht;obtain⟨hle,rfl⟩:=jF ht;rw[e]at hn;obtain⟨s,F,v1,v2,v3,F1,F3,hφ,hun,hi,how,ho1,hcs,hv2,ho3,hF,hnd,hok⟩:=hn;rw[hφ,cF]at hg;have hl1:v1.length=j*o.u.n:=by rw[ho1.length,da,jN (o7 hi)]
         have hlc:=hcs.length;obtain⟨w',hrun,f1,f2,f3,f4,f5,how'⟩:=sW ok how hg hvs h1 hl1 (off:=off) (by rw[hvs,<-hsz'];omega);have hmut:(st.h n).mut=true:=by rw[e];rfl
         have hgF:g∈F:=by rw[hF];exact aC.2 (.inl (by rw[hg];exact bG.2 rfl))
         have hbk:Bk (φ n) g:=by rw[hφ];unfold Bk;rw[cw];exact hgF
         have hkeep:∀g',g'<w.heap.size->(∀n',some n=some n'->¬Bk (φ n') g')->w'.heap[g']? =w.heap[g']? :=λg' _ hne=>f5 g' λeg=>hne n rfl (by rw[eg];exact hbk)
         have hlat:=bE.ec m (w':=w') (some n) (λk hk=>by cases hk;exact hmut) hkeep n (.opn e0 o l j (cs.take off++new++cs.drop (off+new.length))) (φ n) rfl (.inl ⟨rfl,rfl⟩);have hnF:∀g'∈F1++F3,g'≠g:=by intro g' hg' eq;subst eq;rw[hF]at hnd;exact(cQ.1 hnd).2.2 g' (by rw[hg];exact bG.2 rfl) g' hg' rfl
         have e2:vv.cells.size=new.length:=by rw[hvs,hsz']
         have hm':=m.change (w':=w') f1 f2 f3 (fM f4.symm) (some n) (λk hk=>by cases hk;exact hmut) hkeep n (.opn e0 o l j (cs.take off++new++cs.drop (off+new.length))) (φ n) rfl (.inl ⟨rfl,rfl⟩)
          (λg hg=>.inl ⟨n,rfl,hg⟩) (λh' hh'=>by
           subst hh';have mono:∀(q:El o.u)(vs:List Value)(G:List Nat),(∀g'∈G,g'≠g)->bC S w o q vs G->bC S w' o q vs G:=λq vs G hG hq=>hq.mono (λ_ h=>h) hlat.k λg' hg'=>f5 g' (hG g' hg')
           refine⟨s,F,v1,_,v3,F1,F3,hφ,hun,hi,how',ho1.mono mono λg' hg'=>hnF g' (aC.2 (.inl hg')),?_,?_,ho3.mono mono λg' hg'=>hnF g' (aC.2 (.inr hg')),hF,hnd,hok⟩
           . rw[e2];exact(((hcs.take off).append hcells).append (hcs.drop (off+new.length))).mono λc x hcx=>aQ.mono hlat.s hlat.k hlat.l hcx
           . have:=hcells.length;simp only[aV,da,eV]
             omega)
         rw[show giveUp st.h (some n)=upd st.h n .gone from rfl,iI,kg]at hm' hlat;exact⟨_,φ,S,_,hl,hrun,hm',rfl,hlat⟩
       . cases hl
    . cases hl
   |_=>cases hl
end Go.Proofs.YtlkkaielmdlefaaGreatDoor.R1
namespace Go.Proofs.YtlkkaielmdlefaaGreatDoor.R1
variable {P : Program} {ρ : Type}
theorem eQ {st:St}{n:Nat}{b:B}{κ:St->Option ρ}{r:ρ}(h:dZ st n b κ=some r):st.h n=.free/\bZ n=false/\κ {st with h:=upd st.h n b}=some r:=by
 unfold dZ at h;split at h
 . rename_i e1 e2;exact⟨e1,e2,h⟩
 . cases h
theorem fT {st:St}{n e:Nat}{u:U}{l:List (El u)}{κ:St->Option ρ}{r:ρ}(h:newRow st n e u l κ=some r):
    0<u.n/\st.h n=.free/\bZ n=false/\κ {st with h:=upd st.h n (.row e u l)}=some r:=by
 unfold newRow at h;split at h
 . rename_i e1;exact⟨by simpa[dM]using e1,eQ h⟩
 . cases h
section
variable {cx : Cx} {φ : Nat → Value} {S : Nat → Prop} {h : Nat → B} {w : World}
theorem aY.K3 (m:aY cx φ S h w){dst:Nat}(hf:h dst=.free)(hgl:bZ dst=false){t:TypeId}{cs:List C}{vals:Array Value}(ha:aW (aQ S w φ h) cs vals.toList):
    aY cx (upd φ dst (.pointer (some ⟨w.heap.size,0,none⟩))) S (upd h dst (.box t cs)) (w.alloc (.cells vals t))/\
     bE S S w (w.alloc (.cells vals t)) φ (upd φ dst (.pointer (some ⟨w.heap.size,0,none⟩))) h (upd h dst (.box t cs)):=by
 have hfree:(none:Option Nat)=some dst/\pv (Value.pointer (some ⟨w.heap.size,0,none⟩))=pv (φ dst)\/(h dst).live=false/\bZ dst=false:=.inr ⟨by rw[hf];rfl,hgl⟩;have hkeep:∀g,g<w.heap.size->(∀n,(none:Option Nat)=some n->¬Bk (φ n) g)->(w.alloc (.cells vals t)).heap[g]? =w.heap[g]? :=λg hg _=>heap_alloc_old w _ g hg
 have hlat:=bE.ec m none (by simp) hkeep dst (.box t cs) (.pointer (some ⟨w.heap.size,0,none⟩)) rfl hfree;refine⟨?_,hlat⟩;refine m.change (w':=w.alloc (.cells vals t)) rfl rfl rfl (by simp) none (by simp) hkeep dst (.box t cs) (.pointer (some ⟨w.heap.size,0,none⟩)) rfl hfree (λg hg=> ?_) (λh' hh=> ?_)
 . exact .inr (fM (ic.1 hg).symm)
 . subst hh;exact⟨w.heap.size,vals,rfl,heap_alloc_new w _,ha.mono λc x hc=>hlat.OW hc,.inl m.keep.size⟩
theorem aY.WO (m:aY cx φ S h w){n g:Nat}(hr:(h n).isRow=true)(hg:blk (pv (φ n))=some g):Bk (φ n) g:=by
 have hb:=m.b n
 cases eb:h n with
 |row ee uu ll=>
  rw[eb]at hb;rw[jD hb]at hg;exact .EN hg
 |own t o l=>
  rw[eb]at hb;obtain⟨s,F,hφ,⟨flat,F',_,_,_,hF⟩,_⟩:=hb;rw[hφ.1]at hg;unfold Bk;rw[hφ.2,hF,hg];exact aC.2 (.inl (bG.2 rfl))
 |_=>rw[eb]at hr;cases hr
theorem aY.Eu (m:aY cx φ S h w){w':World}(ho:w'.os=w.os)(ht:w'.tape=w.tape)(hu:w'.output=w.output)(hs:w.heap.size≤w'.heap.size)
    (ns:List Nat) (hold:∀n∈ns,(h n).mut=true)
    (hb:∀g,g<w.heap.size->(∀n∈ns,¬Bk (φ n) g)->w'.heap[g]? =w.heap[g]?)
    {dst:Nat} (hf:cC h ns dst=.free) (hgl:bZ dst=false) {t:Nat} {o:O} {l:List (El o.u)} {s:Value} {F:List Nat}
    (hown:di (bC S w' o) w' t o.u.n l s F) (hnd:F.Nodup) (hv:∀g∈F,(∃n∈ns,Bk (φ n) g)\/w.heap.size≤g):
    aY cx (upd φ dst (eK s F)) S (upd (cC h ns) dst (.own t o l)) w'/\bE S S w w' φ (upd φ dst (eK s F)) h (upd (cC h ns) dst (.own t o l)):=by
 have hdn:dst∉ns:=λq=>by rw[pB q]at hf;cases hf
 have hdl:h dst=.free:=by rw[<-kz (h:=h) hdn];exact hf
 generalize hh:cC h ns=h1
 have h1live:∀n,(h1 n).live=(h n).live:=by
  intro n;subst hh;by_cases q:n∈ns
  . rw[pB q,bM (hold n q)];rfl
  . rw[kz q]
 have h1mut:∀n,(h1 n).mut=true->(h n).mut=true/\n∉ns:=by
  intro n hn;subst hh;by_cases q:n∈ns
  . rw[pB q]at hn;cases hn
  . rw[kz q]at hn;exact⟨hn,q⟩
 have hbv:∀g,Bk (eK s F) g->g∈F:=λg hg=>by unfold Bk at hg;rwa[cw]at hg
 have hφ:∀n,(h n).live=true->(upd h1 dst (.own t o l) n).live=true/\pv (upd φ dst (eK s F) n)=pv (φ n):=by
  intro n hn;refine⟨kf rfl n (by rw[h1live];exact hn),?_⟩;have:n≠dst:=by rintro rfl;rw[hdl]at hn;cases hn
  rw[az _ _ this]
 have hkS:∀g,S g->w'.heap[g]? =w.heap[g]? :=λg hg=>hb g (m.lt g hg) λn hn hbl=>m.sep n g (hold n hn) hbl hg
 have other:∀n g,(h1 n).mut=true->Bk (φ n) g->w'.heap[g]? =w.heap[g]? :=by
  intro n g hm hbk;obtain⟨hm',hno⟩:=h1mut n hm;refine hb g (m.iS hm' hbk) λn0 hn0 hb0=> ?_
  exact m.apart n n0 g (by rintro rfl;exact hno hn0) hm' (hold n0 hn0) hbk hb0
 refine⟨?_,⟨λ_ h=>h,hkS,hφ⟩⟩;constructor
 . intro n;by_cases e:n=dst
   . subst e;rw[aj,aj];refine⟨s,F,⟨cF s F,cw s F⟩,hown,hnd,λg hg=> ?_⟩;rcases hv g hg with⟨k,hk,hbk⟩|hge
     . exact gj (hold k hk) (m.b k) hbk
     . exact .inl (o6 m.keep.size hge)
   . rw[az _ _ e,az _ _ e]
     have hb0:ci S w φ h cx.ok (φ n) (h1 n):=by
      subst hh;by_cases q:n∈ns
      . rw[pB q];trivial
      . rw[kz q];exact m.b n
     exact ci.mono (λ_ h=>h) hkS hφ (λhm g hg=>other n g hm hg) hb0
 . intro n k g hnk hn hk hbn hbk
   have key:∀k,k≠dst->(h1 k).mut=true->Bk (φ k) g->g∉F:=by
    intro k hk hm hbk hg;obtain⟨hk',hko⟩:=h1mut k hm;rcases hv g hg with⟨n0,hn0,hb0⟩|hge
    . exact m.apart k n0 g (by rintro rfl;exact hko hn0) hk' (hold n0 hn0) hbk hb0
    . have:=m.iS hk' hbk;omega
   by_cases e:n=dst
   . subst e;rw[aj]at hbn;have e':k≠n:=λe=>hnk e.symm
     rw[az _ _ e']at hk hbk;exact key k e' hk hbk (hbv g hbn)
   . rw[az _ _ e]at hn hbn;by_cases e2:k=dst
     . subst e2;rw[aj]at hbk;exact key n e hn hbn (hbv g hbk)
     . rw[az _ _ e2]at hk hbk;exact m.apart n k g hnk (h1mut n hn).1 (h1mut k hk).1 hbn hbk
 . intro n g hn hbn hg;by_cases e:n=dst
   . subst e;rw[aj]at hbn;rcases hv g (hbv g hbn)with⟨n0,hn0,hb0⟩|hge
     . exact m.sep n0 g (hold n0 hn0) hb0 hg
     . have:=m.lt g hg;omega
   . rw[az _ _ e]at hn hbn;exact m.sep n g (h1mut n hn).1 hbn hg
 . exact m.inS
 . exact λg hg=>r8 (m.lt g hg) hs
 . intro g hgl' hg;have e:cU g≠dst:=by rintro rfl;rw[ia hgl]at hgl';cases hgl'
   rw[az _ _ e];rw[az _ _ e,h1live]at hg;exact m.aB g hgl' hg
 . intro n hgl';obtain⟨hg1,hg2⟩:=m.gl n hgl';have hnd:n≠dst:=by rintro rfl;rw[ia hgl]at hgl';cases hgl'
   rw[az _ _ hnd];have:h1 n=h n:=by subst hh;exact kz λq=>by rw[hold n q]at hg2;cases hg2
   rw[this];exact⟨hg1,hg2⟩
 . intro n hk hl;have e:n≠dst:=by rintro rfl;rw[hgl]at hk;cases hk
   rw[az _ _ e]at hl⊢;rw[h1live]at hl;exact m.kp n hk hl
 . refine m.keep.step ho ht hu hs λg hg hno=>hb g hg λn hn hbn=>hno ?_
   exact gj (hold n hn) (m.b n) hbn
theorem aY.newRow (m:aY cx φ S h w)(old:Option Nat)(hold:∀n,old=some n->(h n).isRow=true){dst:Nat}(hf:giveUp h old dst=.free)(hgl:bZ dst=false)
    {w':World} (hg:w.grownBy w' (match old with|some n=>blk (pv (φ n))|none=>none)) {v:Value} {e:Nat} {u:U} {l:List (El u)} {flat:List Value} (hu:0<u.n)
    (ho:w'.ownsRow 0 e u.n v l.length flat) (hl:b9 (Rep S w u) l flat) (hv:∀g,Bk v g->(∃n,old=some n/\Bk (φ n) g)\/w.heap.size≤g):
    aY cx (upd φ dst v) S (upd (giveUp h old) dst (.row e u l)) w'/\bE S S w w' φ (upd φ dst v) h (upd (giveUp h old) dst (.row e u l)):=by
 have hmut:∀n,old=some n->(h n).mut=true:=λn hn=>by have:=hold n hn;cases e:h n<;>rw[e]at this<;>first|rfl|cases this
 have hdl:(h dst).live=false:=by
  cases old with
  |none=>rw[show h dst=.free from hf];rfl
  |some n=>
   by_cases e:dst=n
   . subst e;simp only[giveUp,aj]at hf;cases hf
   . simp only[giveUp,az _ _ e]at hf;rw[hf];rfl
 have hfree:old=some dst/\pv v=pv (φ dst)\/(h dst).live=false/\bZ dst=false:=.inr ⟨hdl,hgl⟩
 have hkeep:∀g,g<w.heap.size->(∀n,old=some n->¬Bk (φ n) g)->w'.heap[g]? =w.heap[g]? :=λg hlt hne=>hg.block g hlt (by
  cases old with
  |none=>simp
  |some n=>exact λe=>hne n rfl (by exact m.WO (hold n rfl) e.symm))
 have hlat:=bE.ec m (w':=w') old hmut hkeep dst (.row e u l) v rfl hfree;refine⟨?_,hlat⟩;refine m.change hg.os hg.tape hg.output hg.size old hmut hkeep dst (.row e u l) v rfl hfree hv (λh' hh=> ?_);subst hh;refine⟨hu,flat,ho,hl.mono λ_ _ hr=>Rep.mono hlat.s hlat.k hr,λg hbg=> ?_⟩;rcases hv g hbg with⟨n,hn,hbn⟩|hge
 . have hb:=m.b n;exact gj (hmut n hn) hb hbn
 . exact .inl (o6 m.keep.size hge)
end
def Src (S:Nat->Prop)(w:World)(u:U)(l:List (El u))(v:Value):Prop:=
 ∃flat,b9 (Rep S w u) l flat/\((v=.slice none 0 0/\l=[])\/∃a c,v=.slice (some a) l.length c/\Mem w a flat)
theorem Fe {S:Nat->Prop}{w:World}{u:U}{l:List (El u)}{v:Value}(h:Rep S w (.sl u) l [v]):Src S w u l v:=by
 obtain⟨A,cap,cs,hv,hc,hl,hA⟩:=h;injection hv with hv _;subst hv
 cases A with
 |none=>obtain⟨rfl,rfl⟩:=hA;exact⟨cs,hl,.inl ⟨rfl,rfl⟩⟩
 |some a=>exact⟨cs,hl,.inr ⟨a,cap,rfl,hA.1⟩⟩
theorem TH {S:Nat->Prop}{w:World}{φ:Nat->Value}{h:Nat->B}{ok:Nat->Prop}{e:Nat}{u:U}{l:List (El u)}{v:Value}(hb:ci S w φ h ok v (.row e u l)):Src S w u l (pv v):=by
 rw[jD hb];obtain⟨_,flat,ho,hl,_⟩:=hb;rcases ho.2 with⟨h0,hz⟩|⟨g,cap,cur,h0,_⟩
 . exact⟨flat,hl,.inl ⟨h0,db hz⟩⟩
 . exact⟨flat,hl,.inr ⟨⟨g,0,none⟩,cap,h0,ho.cells (by rw[h0];rfl)⟩⟩
theorem Fc {S:Nat->Prop}{w:World}{φ:Nat->Value}{h:Nat->B}{ok:Nat->Prop}(hb:∀n,ci S w φ h ok (φ n) (h n)){u:U}{c:C}{v:Value}{l:List (El u)}(hr:aQ S w φ h c v)(hd:news h u c=some l):Src S w u l v:=by
 have hno:∀n t o l,c=.row n->h n≠ .own t o l:=by rintro n t o l rfl e;simp only[news,e]at hd;cases hd
 replace hd:dv h u c=some l:=by
  cases c with
  |row n=>simp only[news]at hd;split at hd<;>first|cases hd|exact hd
  |_=>exact hd
 unfold dv at hd;split at hd
 . rename_i u' l';split at hd
   . rename_i e;subst e;injection hd with hd;subst hd;exact Fe hr
   . cases hd
 . split at hd
   . rename_i e;subst e;injection hd with hd;subst hd;exact Fe hr.1
   . cases hd
 . injection hd with hd;subst hd;exact⟨[],rfl,.inl ⟨hr,rfl⟩⟩
 . rename_i n;obtain⟨_,hv,_⟩:=hr;subst hv;have hn:=hb n;split at hd
   . rename_i e u' l' hh;split at hd
     . rename_i q;subst q;injection hd with hd;subst hd;rw[hh]at hn;exact TH hn
     . cases hd
   . rename_i e u' l' hh;split at hd
     . rename_i q;subst q;injection hd with hd;subst hd;rw[hh]at hn;exact Fe (E1 hn)
     . cases hd
   . rename_i hh;exact absurd hh (hno n _ _ _ rfl)
   . cases hd
 . cases hd
theorem rW {w:World}{t:TypeId}{e:Nat}{ie:TI}(ok:dm P e ie)(ht:P.underlying t=some (.slice e))(ty:TypeId){S:Nat->Prop}{u:U}(hu:0<u.n)(hue:u=ie.u){l l2:List (El u)}{v vx:Value}{flat:List Value}
    (ho:w.ownsRow 0 e u.n v l.length flat) (hl:b9 (Rep S w u) l flat) (hx:Src S w u l2 vx) (hn:(l.length+l2.length)*ie.bytes≤roomy):
    ∃v' w' flat',(Builtin.append_ #[t,t] ty #[v,vx]).run P w=.ok v' w'/\w'.ownsRow 0 e u.n v' (l++l2).length flat'/\b9 (Rep S w u) (l++l2) flat'/\w.grownBy w' (blk v)/\
     (∀g,blk v'=some g->blk v=some g\/w.heap.size≤g)/\∃A n c,v'=.slice A n c:=by
 obtain⟨inf,z,hi,hsz,hby,hz,hzs,_⟩:=ok.info;obtain⟨hus,hbp⟩:=ok.u (by rw[<-hue];exact hu);rw[<-hue]at hus;obtain⟨flat2,hl2,hv⟩:=hx;have hbk:blk v=v.ownBlock:=eH ho;rcases hv with⟨rfl,rfl⟩|⟨a,c,rfl,hm⟩
 . refine⟨v,w,flat,?_,by simpa using ho,by simpa using hl,⟨rfl,rfl,rfl,aM _,λ_ _ _=>rfl⟩,λg hg=>.inl hg,?_⟩
   . exact run_append_owned_none (P:=P) w 0 t ty e inf u.n ht hi v l.length flat ho
   . rcases ho.2 with⟨rfl,_⟩|⟨g,cap,cur,rfl,_⟩<;>exact⟨_,_,_,rfl⟩
 . have h63:l.length+l2.length≤maxLen:=by have:l.length+l2.length≤(l.length+l2.length)*ie.bytes:=pR _ hbp;simp only[roomy,maxLen]at*;omega
   obtain⟨v',w',hr,h2,h3,h4,h5⟩:=run_append_own_at (P:=P) w 0 t ty e inf z u.n ie.bytes ht hi hz (by rw[hsz,hus]) hby (by rw[hzs,hus]) hu v l.length flat ho a l2.length c flat2 hl2.length hm hl2.one h63
    (by simp only[roomy]at hn;omega) (eC _)
   refine⟨v',w',flat++flat2,hr,by rw[aV];exact h2,hl.append hl2,by rw[hbk];exact h3,λg hg=> ?_,?_⟩
   . rw[eH h2]at hg;rcases h5 with h5|h5
     . exact .inl (by rw[hbk,<-h5];exact hg)
     . rw[h5]at hg;injection hg with hg;exact .inr (by omega)
   . rcases h2.2 with⟨rfl,_⟩|⟨g,cap,cur,rfl,_⟩<;>exact⟨_,_,_,rfl⟩
theorem Cz {cx:Cx}{φ:Nat->Value}{S:Nat->Prop}{w:World}{st:St}{t:TypeId}{e:Nat}{ie:TI}(ok:dm P e ie)(ht:P.underlying t=some (.slice e))(ty:TypeId)(m:aY cx φ S st.h w){s x:C}{vs vx:Value}
    (hs:aQ S w φ st.h s vs) (hx:aQ S w φ st.h x vx) {dst:Nat} {κ:V->St->Option ρ} {r:ρ} (hl:append st dst e ie s x κ=some r):
    ∃v st' φ' S' v' w',κ v st'=some r/\(Builtin.append_ #[t,t] ty #[vs,vx]).run P w=.ok v' w'/\aY cx φ' S' st'.h w'/\st'.t=st.t/\bE S S' w w' φ φ' st.h st'.h/\bB S' w' φ' st'.h v v':=by
 unfold append at hl
 cases s with
 |nils=>
  simp only at hl;split at hl
  . rename_i l2 hd
    cases hb:decide (l2.length*ie.bytes≤roomy)with
    |false=>rw[hb]at hl;cases hl
    |true=>rw[hb]at hl;simp only[ab]at hl;obtain⟨hu,hf,hgl,hl⟩:=fT hl;have:vs=.slice none 0 0:=hs;subst this;obtain⟨v',w',flat',hr,h2,h3,h4,h5,h6⟩:=rW (w:=w) ok ht ty hu rfl (l:=[]) (v:=.slice none 0 0) (flat:=[]) (World.ownsRow_nil w 0 e ie.u.n) rfl (Fc m.b hx hd) (by simpa using eY hb);obtain⟨hm,hlat⟩:=m.newRow none (by simp) (dst:=dst) hf hgl (w':=w') h4 hu h2 h3 (λg hg=>.inr ((h5 g ((yY h2).1 hg)).resolve_left (by simp[blk])));exact⟨_,_,_,S,v',w',hl,hr,hm,rfl,hlat,by show(upd st.h dst _ dst).live=true;rw[aj];rfl,by rw[aj,pJ h6],h6⟩
  . cases hl
 |row n=>
  simp only at hl;split at hl
  . rename_i e' u l eh;split at hl
    . rename_i q1 q2;have q1:=aR q1;subst q1
      have q2:u=ie.u:=by
       by_cases q:u=ie.u
       . exact q
       . rw[ae q]at q2;cases q2
      split at hl
      . rename_i l2 hd
        cases hb:decide ((l.length+l2.length)*ie.bytes≤roomy)with
        |false=>rw[hb]at hl;cases hl
        |true=>rw[hb]at hl;simp only[ab]at hl;obtain⟨hu,hf,hgl,hl⟩:=fT hl;obtain⟨_,rfl,_⟩:=hs;have hn:=m.b n;rw[eh]at hn;have hpv:=jD hn;obtain⟨_,flat,ho,hfl,_⟩:=hn;rw[hpv];obtain⟨v',w',flat',hr,h2,h3,h4,h5,h6⟩:=rW (w:=w) ok ht ty hu q2 ho hfl (Fc m.b hx hd) (eY hb);obtain⟨hm,hlat⟩:=m.newRow (some n) (λk hk=>by cases hk;rw[eh];rfl) (dst:=dst) hf hgl (w':=w') (by show w.grownBy w' (blk (pv (φ n)));rw[hpv];exact h4) hu h2 h3 (λg hg=>(h5 g ((yY h2).1 hg)).imp (λh=>⟨n,rfl,.EN h⟩) id);exact⟨_,_,_,S,v',w',hl,hr,hm,rfl,hlat,by show(upd (upd st.h n .gone) dst _ dst).live=true;rw[aj];rfl,by rw[aj,pJ h6],h6⟩
      . cases hl
    . cases hl
  . cases hl
 |_=>cases hl
theorem qK {st:St}{n e:Nat}{o:O}{l:List (El o.u)}{κ:St->Option ρ}{r:ρ}(h:gY st n e o l κ=some r):
    0<o.u.n/\st.h n=.free/\bZ n=false/\κ {st with h:=upd st.h n (.own e o l)}=some r:=by
 unfold gY at h;split at h
 . rename_i e1;exact⟨by simpa[dM]using e1,eQ h⟩
 . cases h
theorem yx {w:World}{t:TypeId}{e:Nat}{ie:TI}(ok:dm P e ie)(ht:P.underlying t=some (.slice e))(ty:TypeId){size n n2:Nat}(hu:0<size)(hue:size=ie.size)(hbp:0<ie.bytes){v vx:Value}{flat flat2:List Value}
    (ho:w.ownsRow 0 e size v n flat) (hx:vx=.slice none 0 0/\n2=0\/∃a c,vx=.slice (some a) n2 c/\Mem w a flat2) (hl2:flat2.length=n2*size) (h1:∀v∈flat2,v.oneCell'=true) (hn:(n+n2)*ie.bytes≤roomy):
    ∃v' w',(Builtin.append_ #[t,t] ty #[v,vx]).run P w=.ok v' w'/\w'.ownsRow 0 e size v' (n+n2) (flat++flat2)/\w.grownBy w' (blk v)/\
     (∀g,blk v'=some g->blk v=some g\/w.heap.size≤g)/\∃A n c,v'=.slice A n c:=by
 obtain⟨inf,z,hi,hsz,hby,hz,hzs,_⟩:=ok.info;have hbk:blk v=v.ownBlock:=eH ho;rcases hx with⟨rfl,rfl⟩|⟨a,c,rfl,hm⟩
 . have:flat2=[]:=db (by simpa using hl2);subst this;refine⟨v,w,?_,by simpa using ho,⟨rfl,rfl,rfl,aM _,λ_ _ _=>rfl⟩,λg hg=>.inl hg,?_⟩
   . exact run_append_owned_none (P:=P) w 0 t ty e inf size ht hi v n flat ho
   . rcases ho.2 with⟨rfl,_⟩|⟨g,cap,cur,rfl,_⟩<;>exact⟨_,_,_,rfl⟩
 . have h63:n+n2≤maxLen:=by have:n+n2≤(n+n2)*ie.bytes:=pR _ hbp;simp only[roomy,maxLen]at*;omega
   obtain⟨v',w',hr,h2,h3,h4,h5⟩:=run_append_own_at (P:=P) w 0 t ty e inf z size ie.bytes ht hi hz (by rw[hsz,hue]) hby (by rw[hzs,hue]) hu v n flat ho a n2 c flat2 hl2 hm h1 h63
    (by simp only[roomy]at hn;omega) (eC _)
   refine⟨v',w',hr,h2,by rw[hbk];exact h3,λg hg=> ?_,?_⟩
   . rw[eH h2]at hg;rcases h5 with h5|h5
     . exact .inl (by rw[hbk,<-h5];exact hg)
     . rw[h5]at hg;injection hg with hg;exact .inr (by omega)
   . rcases h2.2 with⟨rfl,_⟩|⟨g,cap,cur,rfl,_⟩<;>exact⟨_,_,_,rfl⟩
theorem wg {cx:Cx}{φ:Nat->Value}{S:Nat->Prop}{w:World}{h:Nat->B}(m:aY cx φ S h w){e:Nat}{o:O}(hu:0<o.u.n){c:C}{v:Value}{l:List (El o.u)}{ns:List Nat}(hr:aQ S w φ h c v)(hs:ga h e o c=some (l,ns)):
    ∃flat F,w.ownsRow 0 e o.u.n v l.length flat/\bY (bC S w o) l flat F/\((blk v).toList++F).Nodup/\(∀g∈(blk v).toList++F,∃n∈ns,Bk (φ n) g)/\(∀n∈ns,(h n).mut=true):=by
 unfold ga at hs;split at hs
 . injection hs with hs;injection hs with h1 h2;subst h1;subst h2;have:v=.slice none 0 0:=hr;subst this;exact⟨[],[],World.ownsRow_nil w 0 e o.u.n,⟨rfl,rfl⟩,nG,λg hg=>(by cases hg),λn hn=>(by cases hn)⟩
 . rename_i k;split at hs
   . rename_i t o' l' e'
     cases hq:Nat.beq t e with
     |false=>rw[hq]at hs;cases hs
     |true=>
      rw[hq]at hs;have:=aR hq;subst this;simp only[ab]at hs;split at hs
      . rename_i q;subst q;injection hs with hs;injection hs with h1 h2;subst h1;subst h2;obtain⟨_,rfl,_⟩:=hr;have hb:=m.b k;rw[e']at hb;obtain⟨s,F,hφ,⟨flat,F',_,how,hol,hF⟩,hnd,_⟩:=hb;rw[hφ.1];rw[hF]at hnd;refine⟨flat,F',how,hol,hnd,λg hg=>⟨k,bG.2 rfl,by unfold Bk;rw[hφ.2,hF];exact hg⟩,λn hn=> ?_⟩;rw[bG.1 hn,e'];rfl
      . cases hs
   . cases hs
 . cases hs
theorem xw {cx:Cx}{φ:Nat->Value}{S:Nat->Prop}{w:World}{st:St}{t:TypeId}{e:Nat}{ie:TI}(ok:dm P e ie)(ht:P.underlying t=some (.slice e))(ty:TypeId)(m:aY cx φ S st.h w){o:O}{s x:C}{vs vx:Value}
    (hs:aQ S w φ st.h s vs) (hx:aQ S w φ st.h x vx) {dst:Nat} {κ:V->St->Option ρ} {r:ρ} (hl:fu st dst e o ie s x κ=some r):
    ∃v st' φ' S' v' w',κ v st'=some r/\(Builtin.append_ #[t,t] ty #[vs,vx]).run P w=.ok v' w'/\aY cx φ' S' st'.h w'/\st'.t=st.t/\bE S S' w w' φ φ' st.h st'.h/\bB S' w' φ' st'.h v v':=by
 unfold fu at hl;split at hl
 . rename_i l ns l2 ms e1 e2;split at hl
   . rename_i hd hz
     have hz:o.u=ie.u:=by
      by_cases q:o.u=ie.u
      . exact q
      . rw[ae q]at hz;cases hz
     cases hb:decide ((l.length+l2.length)*ie.bytes≤roomy)with
     |false=>rw[hb]at hl;cases hl
     |true=>
      rw[hb]at hl;simp only[ab]at hl;obtain⟨hu,hf,hgl,hl⟩:=qK hl;obtain⟨hz,hbp⟩:=(by have:=ok.u (by rw[<-hz];exact hu);rw[<-hz]at this;exact this:o.u.n=ie.size/\0<ie.bytes);obtain⟨flat,F1,how,hol,hnd1,hF1,hm1⟩:=wg m hu hs e1;obtain⟨flat2,F2,how2,hol2,hnd2,hF2,hm2⟩:=wg m hu hx e2;have hdn:=cQ.1 (jp hd)
      have hxs:vx=.slice none 0 0/\l2.length=0\/∃a c,vx=.slice (some a) l2.length c/\Mem w a flat2:=by
       rcases how2.2 with⟨h0,hz⟩|⟨g,cap,cur,h0,_⟩
       . exact .inl ⟨h0,hz⟩
       . exact .inr ⟨⟨g,0,none⟩,cap,h0,how2.cells (by rw[h0];rfl)⟩
      obtain⟨v',w',hrun,how',hgr,hblk,hsl⟩:=yx (w:=w) ok ht ty hu hz hbp how hxs hol2.length hol2.one (eY hb);have ao:∀g,g∈(blk vs).toList++F1->g∉(blk vx).toList++F2:=by intro g h1 h2;obtain⟨n,hn,hbn⟩:=hF1 g h1;obtain⟨k,hk,hbk⟩:=hF2 g h2;exact m.apart n k g (hdn.2.2 n hn k hk) (hm1 n hn) (hm2 k hk) hbn hbk
      have hltF:∀g∈F1++F2,g<w.heap.size:=by
       intro g hg;rcases aC.1 hg with q|q
       . exact hol.all (λ_ _ _ hx=>bC.lt hx) g q
       . exact hol2.all (λ_ _ _ hx=>bC.lt hx) g q
      have hnotv:∀g∈F1++F2,blk vs≠some g:=by
       intro g hg e;have hv:g∈(blk vs).toList:=by rw[e];exact bG.2 rfl
       rcases aC.1 hg with q|q
       . exact(cQ.1 hnd1).2.2 g hv g q rfl
       . exact ao g (aC.2 (.inl hv)) (aC.2 (.inr q))
      have hkF:∀g∈F1++F2,w'.heap[g]? =w.heap[g]? :=λg hg=>hgr.block g (hltF g hg) λe=>hnotv g hg e.symm
      have hkeep:∀g,g<w.heap.size->(∀n∈ns++ms,¬Bk (φ n) g)->w'.heap[g]? =w.heap[g]? :=λg hlt hno=>hgr.block g hlt λe=>by obtain⟨n,hn,hbn⟩:=hF1 g (aC.2 (.inl (by rw[<-e];exact bG.2 rfl)));exact hno n (aC.2 (.inl hn)) hbn
      have hold:∀n∈ns++ms,(st.h n).mut=true:=λn hn=>(aC.1 hn).elim (hm1 n) (hm2 n)
      have hkS:∀g,S g->w'.heap[g]? =w.heap[g]? :=λg hg=>hkeep g (m.lt g hg) λn hn hbn=>m.sep n g (hold n hn) hbn hg
      have mono:∀(q:El o.u)(vs:List Value)(G:List Nat),(∀g∈G,w'.heap[g]? =w.heap[g]?)->bC S w o q vs G->bC S w' o q vs G:=λq vs G hG hq=>hq.mono (λ_ h=>h) hkS hG
      have hown:di (bC S w' o) w' e o.u.n (l++l2) v' ((blk v').toList++(F1++F2)):=⟨_,_,hu,by rw[aV];exact how',(hol.mono mono λg hg=>hkF g (aC.2 (.inl hg))).append (hol2.mono mono λg hg=>hkF g (aC.2 (.inr hg))),rfl⟩;have hnew:∀g,blk v'=some g->blk vs=some g\/w.heap.size≤g:=hblk
      have hnd:((blk v').toList++(F1++F2)).Nodup:=by
       refine cQ.2 ⟨by cases blk v'<;>simp,cQ.2 ⟨(cQ.1 hnd1).2.1,(cQ.1 hnd2).2.1,λg h1 g' h2 e=> ?_⟩,λg h1 g' h2 e=> ?_⟩
       . subst e;exact ao g (aC.2 (.inr h1)) (aC.2 (.inr h2))
       . subst e
         have hb':blk v'=some g:=by
          cases q:blk v' with
          |none=>rw[q]at h1;cases h1
          |some k=>rw[q]at h1;rw[bG.1 h1]
         rcases hnew g hb' with q|q
         . exact hnotv g h2 q
         . have:=hltF g h2;omega
      obtain⟨hm,hlat⟩:=m.Eu hgr.os hgr.tape hgr.output hgr.size (ns++ms) hold hkeep (dst:=dst) hf hgl (t:=e) hown hnd (λg hg=>by
       rcases aC.1 hg with q|q
       . have hb':blk v'=some g:=by
          cases q':blk v' with
          |none=>rw[q']at q;cases q
          |some k=>rw[q']at q;rw[bG.1 q]
         rcases hnew g hb' with p|p
         . obtain⟨n,hn,hbn⟩:=hF1 g (aC.2 (.inl (by rw[p];exact bG.2 rfl)));exact .inl ⟨n,aC.2 (.inl hn),hbn⟩
         . exact .inr p
       . rcases aC.1 q with q|q
         . obtain⟨n,hn,hbn⟩:=hF1 g (aC.2 (.inr q));exact .inl ⟨n,aC.2 (.inl hn),hbn⟩
         . obtain⟨n,hn,hbn⟩:=hF2 g (aC.2 (.inr q))
           exact .inl ⟨n,aC.2 (.inr hn),hbn⟩)
      exact⟨_,_,_,S,v',w',hl,hrun,hm,rfl,hlat,by show(upd (cC st.h (ns++ms)) dst _ dst).live=true;rw[aj];rfl,by rw[aj,cF],hsl⟩
   . cases hl
 . cases hl
theorem aY.Mo {cx:Cx}{φ:Nat->Value}{S:Nat->Prop}{w:World}{h:Nat->B}(m:aY cx φ S h w){ns:List Nat}(hold:∀n∈ns,(h n).mut=true){dst:Nat}(hf:cC h ns dst=.free)(hgl:bZ dst=false){t:TypeId}{o:O}{l:List (El o.u)}{cells:Array Value}{F:List Nat}
    (hu:0<o.u.n) (hl:bY (bC S w o) l cells.toList F) (hF:∀g∈F,∃n∈ns,Bk (φ n) g) (hnd:F.Nodup) (hn:l.length≤Go.maxLen):
    ∃φ',aY cx φ' S (upd (cC h ns) dst (.own t o l)) (w.alloc (.cells cells t))/\bE S S w (w.alloc (.cells cells t)) φ φ' h (upd (cC h ns) dst (.own t o l))/\pv (φ' dst)=.slice (some ⟨w.heap.size,0,none⟩) l.length l.length:=by
 have hkeep:∀g,g<w.heap.size->(w.alloc (.cells cells t)).heap[g]? =w.heap[g]? :=λg hg=>heap_alloc_old w _ g hg
 have hlt:∀g∈F,g<w.heap.size:=hl.all λ_ _ _ hx=>bC.lt hx
 have mono:∀(q:El o.u)(vs:List Value)(G:List Nat),(∀g∈G,(w.alloc (.cells cells t)).heap[g]? =w.heap[g]?)->bC S w o q vs G->bC S (w.alloc (.cells cells t)) o q vs G:=λq vs G hG hq=>hq.mono (λ_ h=>h) (λg hg=>hkeep g (m.lt g hg)) hG
 have how:=World.ownsRow_lit (e:=t) w cells l.length (eC _) hn (by rw[<-cX];exact hl.length);have hown:di (bC S (w.alloc (.cells cells t)) o) (w.alloc (.cells cells t)) t o.u.n l (.slice (some ⟨w.heap.size,0,none⟩) l.length l.length) (w.heap.size::F):=⟨_,F,hu,how,hl.mono mono λg hg=>hkeep g (hlt g hg),rfl⟩
 obtain⟨hm,hlat⟩:=m.Eu (w':=w.alloc (.cells cells t)) rfl rfl rfl (by simp) ns hold (λg hg _=>hkeep g hg) hf hgl hown (fC.2 ⟨λq=>Nat.lt_irrefl _ (hlt _ q),hnd⟩) (λg hg=>by
  rcases aG.1 hg with rfl|q
  . exact .inr (aM _)
  . exact .inl (hF g q))
 exact⟨_,hm,hlat,by rw[aj,cF]⟩
end Go.Proofs.YtlkkaielmdlefaaGreatDoor.R1
namespace Go.Proofs.YtlkkaielmdlefaaGreatDoor.R1
variable {P : Program} {ρ : Type}
theorem foldl_set :∀(l:List Value)(k off:Nat)(cs:Array Value),off+k+l.length≤cs.size->
    ((l.zipIdx k).foldl (λ(cs:Array Value)(x:Value×Nat)=>cs.setIfInBounds (off+x.2) x.1) cs).toList=cs.toList.take (off+k)++l++cs.toList.drop (off+k+l.length)
 |[],k,off,cs,_=>by simp
 |v::l,k,off,cs,hl=>by
  simp only[ax]at hl;rw[List.zipIdx_cons,List.foldl_cons,foldl_set l (k+1) off _ (by simp;omega)];have hlt:off+k<cs.toList.length:=by rw[cX];omega
  rw[Array.toList_setIfInBounds,iu cs.toList (off+k) _ v (aL hlt)];have hA:(cs.toList.take (off+k)).length=off+k:=by rw[da];omega
  have hD:cs.toList.drop (off+k+(l.length+1))=(cs.toList.drop (off+k+1)).drop l.length:=by rw[List.drop_drop];congr 1;omega
  rw[ax,hD];generalize cs.toList.drop (off+k+1)=D;generalize cs.toList.take (off+k)=A at hA;rw[show off+(k+1)=(A++[v]).length by simp[hA];omega,show A++v::D=(A++[v])++D by simp,lC,List.drop_append,uP (by omega)];simp
theorem uc (place:Nat->Option (Nat×Nat))(cells:Array Value)(i:Nat)(v:Value)(rest:List (Nat×Value))(off size:Nat)(hp:place i=some (off,size))(hs:v.cells.size=size)(hf:off+v.cells.size≤cells.size):
    ∃cells':Array Value,Instr.fill place cells ((i,v)::rest)=Instr.fill place cells' rest/\cells'.toList=cells.toList.take off++v.cells.toList++cells.toList.drop (off+v.cells.toList.length):=by
 refine⟨(v.cells.toList.zipIdx 0).foldl (λ(cs:Array Value)(x:Value×Nat)=>cs.setIfInBounds (off+x.2) x.1) cells,?_,foldl_set v.cells.toList 0 off cells (by simpa using hf)⟩;simp only[Instr.fill,hp];rw[ae (by simp[hs];omega)]
 congr 1
 rw[<-Array.foldl_toList,Array.toList_zipIdx]
section
variable {S : Nat → Prop} {w : World} {φ : Nat → Value} {h : Nat → B}
theorem lf {fs:List (Nat×Nat)}{size:Nat->Option Nat}{places:List (Nat×Nat)}(hpl:∀(i off t s:Nat),fs[i]? =some (off,t)->size t=some s->places[i]? =some (off,s)):
    ∀{parts:List (Nat×V)}{vparts:List (Nat×Value)}{cs cs':List C}{cells:Array Value},aW (λp q=>p.1=q.1/\bB S w φ h p.2 q.2) parts vparts->aW (aQ S w φ h) cs cells.toList->
     iY fs size parts cs=some cs'->∃cells',Instr.fill (places.toArray[·]?) cells vparts=some cells'/\aW (aQ S w φ h) cs' cells'.toList
 |[],[],cs,cs',cells,_,ha,hf=>by simp[iY]at hf;subst hf;exact⟨cells,rfl,ha⟩
 |(i,v)::parts,(i',v')::vparts,cs,cs',cells,hp,ha,hf=>by
  obtain⟨⟨hi,hv⟩,hp⟩:=hp;simp only at hi;subst hi;simp only[iY]at hf;split at hf
  . rename_i off t new e1 e2;split at hf
    . rename_i s e3
      cases hb:Nat.beq new.length s with
      |false=>rw[hb]at hf;cases hf
      |true=>
       rw[hb]at hf;simp only[ab]at hf;split at hf
       . rename_i cs2 e4;obtain⟨hle,rfl⟩:=jF e4;have hc:=lq hv e2;have hs:v'.cells.size=s:=by rw[<-aR hb,hc.length,cX]
         have hcl:=hc.length;have hal:=ha.length;simp only[cX]at hcl hal;obtain⟨cells',h1,h2⟩:=uc (places.toArray[·]?) cells i v' vparts off s (by simpa using hpl i off t s e1 e3) hs (by omega);have hall:=((ha.take off).append hc).append (ha.drop (off+new.length));have e5:v'.cells.toList.length=new.length:=by rw[cX];omega
         rw[e5]at h2;rw[<-h2]at hall;obtain⟨c3,h3,h4⟩:=lf hpl hp hall hf;exact⟨c3,h1.trans h3,h4⟩
       . cases hf
    . cases hf
  . cases hf
 |[],_::_,_,_,_,hp,_,_=>hp.elim
 |_::_,[],_,_,_,hp,_,_=>hp.elim
theorem rV {ok:Nat->Prop}(hb:∀n,ci S w φ h ok (φ n) (h n)){S':Nat->Prop}(hS:∀g,S g->S' g){u:U}{size:Nat}(hsz:size=u.n):
    ∀{parts:List (Nat×V)}{vparts:List (Nat×Value)}{l l':List (El u)}{cells:Array Value},aW (λp q=>p.1=q.1/\bB S w φ h p.2 q.2) parts vparts->b9 (Rep S' w u) l cells.toList->
     dN h parts l=some l'->(∀n∈eA parts,(h n).isRow=true->∀g,Bk (φ n) g->S' g)->
     ∃cells',Instr.fill (λi=>some (i*size,size)) cells vparts=some cells'/\b9 (Rep S' w u) l' cells'.toList
 |[],[],l,l',cells,_,ha,hf,_=>by simp[dN]at hf;subst hf;exact⟨cells,rfl,ha⟩
 |(i,v)::parts,(i',v')::vparts,l,l',cells,hp,ha,hf,hrow=>by
  obtain⟨⟨hi,hv⟩,hp⟩:=hp;simp only at hi;subst hi;subst hsz;simp only[dN]at hf;split at hf
  . rename_i cs e1;split at hf
    . rename_i x e2
      cases hb':Nat.blt i l.length with
      |false=>rw[hb']at hf;cases hf
      |true=>
       rw[hb']at hf;simp only[ab]at hf;have hlt:i<l.length:=by simpa[dM]using hb'
       have hc:=lq hv e1
       have hrv:∀n∈bn cs,n∈eA ((i,v)::parts):=by
        intro n hn
        cases v with
        |v y=>simp[V.cells]at e1;subst e1;exact List.mem_append_left _ hn
        |_=>simp[V.cells]at e1
       have hrp:∀n∈eA parts,n∈eA ((i,v)::parts):=by
        intro n hn
        cases v with
        |v y=>exact List.mem_append_right _ hn
        |_=>exact hn
       have hrep:Rep S' w u x v'.cells.toList:=ef hb hS hc e2 λn hn=>hrow n (hrv n hn)
       have hn:v'.cells.size=u.n:=by have:=hrep.length;simpa using this
       obtain⟨y,hy⟩:∃y,l[i]? =some y:=⟨_,aL hlt⟩;obtain⟨v1,v2,v3,hfl,hl1,hr,hr1,hr3⟩:=ha.at hy;have hlen:=congrArg List.length hfl;simp only[cX,aV,hl1,hr.length]at hlen;obtain⟨cells',h1,h2⟩:=uc (λi=>some (i*u.n,u.n)) cells i v' vparts (i*u.n) u.n rfl hn (by omega)
       have h3:b9 (Rep S' w u) (l.set i x) cells'.toList:=by
        rw[h2,iu l i y x hy]
        rw[hfl,show i*u.n=v1.length from hl1.symm,lC,show v'.cells.toList.length=v2.length by rw[hr.length];simpa using hn,
         show v1.length+v2.length=(v1++v2).length by simp,<-bL v1 v2 v3,List.drop_left,bL]
        exact hr1.append ⟨_,_,rfl,hrep,hr3⟩
       obtain⟨c3,h4,h5⟩:=rV hb hS rfl hp h3 hf λn hn=>hrow n (hrp n hn)
       exact⟨c3,h1.trans h4,h5⟩
    . cases hf
  . cases hf
 |[],_::_,_,_,_,hp,_,_,_=>hp.elim
 |_::_,[],_,_,_,hp,_,_,_=>hp.elim
theorem qn {o:O}{z:El o.u}{vs:List Value}(h:bC S w o z vs []):∀n,bY (bC S w o) (List.replicate n z) (List.replicate n vs).flatten []
 |0=>⟨rfl,rfl⟩
 |n+1=>by rw[List.replicate_succ,List.replicate_succ,List.flatten_cons];exact⟨vs,_,[],[],rfl,rfl,h,qn h n⟩
theorem tw {ok:Nat->Prop}(hb:∀n,ci S w φ h ok (φ n) (h n))(hap:∀n m g,n≠m->(h n).mut=true->(h m).mut=true->Bk (φ n) g->¬Bk (φ m) g){o:O}{size:Nat}(hsz:size=o.u.n):
    ∀{parts:List (Nat×V)}{vparts:List (Nat×Value)}{i:Nat}{l:List (El o.u)}{ns:List Nat}{cells:Array Value}{done rest:List Value},aW (λp q=>p.1=q.1/\bB S w φ h p.2 q.2) parts vparts->cells.toList=done++rest->done.length=i*size->rest.length=parts.length*size->
     dG h o i parts=some (l,ns)->
     ∃cells' mid F,Instr.fill (λi=>some (i*size,size)) cells vparts=some cells'/\cells'.toList=done++mid/\bY (bC S w o) l mid F/\l.length=parts.length/\(∀g∈F,∃n∈ns,Bk (φ n) g)/\(ns.Nodup->F.Nodup)/\∀n∈ns,(h n).mut=true
 |[],[],i,l,ns,cells,done,rest,_,hc,_,hr,hl=>by
  simp only[dG]at hl;injection hl with hl;injection hl with h1 h2;subst h1;subst h2;have:rest=[]:=db (by simpa using hr);subst this;exact⟨cells,[],[],rfl,hc,⟨rfl,rfl⟩,rfl,λg hg=>(by cases hg),λ_=>nG,λn hn=>(by cases hn)⟩
 |(j,.v x)::parts,(j',v')::vparts,i,l,ns,cells,done,rest,hp,hc,hd,hr,hl=>by
  obtain⟨⟨hi,hv⟩,hp⟩:=hp;simp only at hi;subst hi;simp only[dG]at hl;split at hl
  . rename_i x' ns1 hj hcl;have:=aR hj;subst this;split at hl
    . rename_i l2 ms hl2;injection hl with hl;injection hl with h1 h2;subst h1;subst h2;have hcs:=lq hv (show V.cells (.v x)=some x.cells from rfl);obtain⟨a1,a2,F1,hvc,har,hrep,hF1,hnd1,hm1⟩:=sx hb hap hcs hcl
      have:a2=[]:=by
       cases a2 with
       |nil=>rfl
       |cons=>exact har.elim
      subst this;rw[eO]at hvc;have hlen:v'.cells.toList.length=size:=by rw[hvc,hrep.length,hsz]
      simp only[ax,Nat.succ_mul]at hr;have hsize:cells.size=j*size+rest.length:=by rw[<-cX,hc,aV,hd]
      obtain⟨cells1,hf1,hf2⟩:=uc (λi=>some (i*size,size)) cells j v' vparts (j*size) size rfl (by rw[<-cX];exact hlen) (by rw[<-cX (xs:=v'.cells),hlen];omega)
      have hc1:cells1.toList=(done++a1)++rest.drop size:=by
       rw[hf2,hc,hlen,<-hd,lC,hvc,bL,bL]
       congr 2
       rw[List.drop_append,uP (by omega)];simp
      obtain⟨c2,mid,F2,k1,k2,k3,k4,k5,k6,k7⟩:=tw hb hap hsz hp hc1 (by rw[aV,hd,hrep.length,hsz,Nat.succ_mul]) (by rw[eV];omega) hl2;refine⟨c2,a1++mid,F1++F2,hf1.trans k1,by rw[k2,bL],⟨a1,mid,F1,F2,rfl,rfl,hrep,k3⟩,by rw[ax,ax,k4],λg hg=> ?_,λhn=> ?_,λn hn=>(aC.1 hn).elim (hm1 n) (k7 n)⟩
      . rcases aC.1 hg with q|q
        . obtain⟨n,q1,q2⟩:=(hF1 g).1 q;exact⟨n,aC.2 (.inl q1),q2⟩
        . obtain⟨n,q1,q2⟩:=k5 g q;exact⟨n,aC.2 (.inr q1),q2⟩
      . have hn:=cQ.1 hn;refine cQ.2 ⟨hnd1 hn.1,k6 hn.2.1,λg q1 g' q2 e=> ?_⟩;subst e;obtain⟨n,p1,p2⟩:=(hF1 g).1 q1;obtain⟨m,p3,p4⟩:=k5 g q2;exact hap n m g (hn.2.2 n p1 m p3) (hm1 n p1) (k7 m p3) p2 p4
    . cases hl
  . cases hl
 |(_,.bad)::_,_,_,_,_,_,_,_,_,_,_,_,hl=>by cases hl
 |(_,.und)::_,_,_,_,_,_,_,_,_,_,_,_,hl=>by cases hl
 |(_,.tup _)::_,_,_,_,_,_,_,_,_,_,_,_,hl=>by cases hl
 |[],_::_,_,_,_,_,_,_,hp,_,_,_,_=>hp.elim
 |(_,.v _)::_,[],_,_,_,_,_,_,hp,_,_,_,_=>hp.elim
theorem gX (z:Array Value)(hz:0<z.size):∀n,(madeCells z (n*z.size)).toList=(List.replicate n z.toList).flatten:=by
 have key:∀n j,j<n*z.size->(List.replicate n z.toList).flatten[j]? =z.toList[j%z.size]? :=by
  intro n
  induction n with
  |zero=>intro j hj;simp at hj
  |succ n ih=>
   intro j hj;rw[List.replicate_succ,List.flatten_cons];by_cases hlt:j<z.size
   . rw[gI (by simpa using hlt),jM hlt]
   . rw[jJ (by simpa using hlt)];rw[cX,ih (j-z.size) (by rw[Nat.succ_mul]at hj;omega),<-Nat.mod_eq_sub_mod (by omega)]
 intro n;have hlen:(List.replicate n z.toList).flatten.length=n*z.size:=by simp
 apply r9;intro j;by_cases hj:j<n*z.size
 . rw[key n j hj];have hm:j%z.size<z.size:=gM _ hz;simp[madeCells,hj,hm]
 . rw[iE (by simp[size_madeCells];omega),iE (by omega)]
theorem hH {u:U}{z:El u}{zs:List Value}(hr:Rep S w u z zs):∀n,b9 (Rep S w u) (List.replicate n z) (List.replicate n zs).flatten
 |0=>rfl
 |n+1=>⟨zs,_,rfl,hr,hH hr n⟩
theorem jn {ok:Nat->Prop}(hb:∀n,ci S w φ h ok (φ n) (h n)){S':Nat->Prop}(hS:∀g,S g->S' g){u:U}:
    ∀{n:Nat}{cs:List C}{vs:List Value}{l:List (El u)},aW (aQ S w φ h) cs vs->dY h u n cs=some l->(∀n∈bn cs,(h n).isRow=true->∀g,Bk (φ n) g->S' g)->b9 (Rep S' w u) l vs/\l.length=n
 |0,cs,vs,l,ha,hd,_=>by
  simp only[dY]at hd;split at hd
  . injection hd with hd;subst hd
    cases vs with
    |nil=>exact⟨rfl,rfl⟩
    |cons=>exact ha.elim
  . cases hd
 |n+1,cs,vs,l,ha,hd,hrow=>by
  simp only[dY]at hd;split at hd
  . rename_i x r e1;split at hd
    . rename_i l' e2;injection hd with hd;subst hd;obtain⟨v1,v2,rfl,hr,ha2,hsub⟩:=wo hb hS ha e1 hrow;obtain⟨h1,h2⟩:=jn hb hS ha2 e2 λn hn=>hrow n (hsub n hn)
      exact⟨⟨v1,v2,rfl,hr,h1⟩,by simp[h2]⟩
    . cases hd
  . cases hd
end
end Go.Proofs.YtlkkaielmdlefaaGreatDoor.R1
