/- Part 1: Every operation but a call of a function: the machine does what the abstract run does. -/
import Derived.Test.YtlkkaielmdlefaaGreatDoorR1M0
import Derived.Laws.StructEq
import Derived.Laws.Small
import Derived.Laws.Pointers
import Derived.Laws.Cover3
import Derived.Laws.Slices
import Derived.Laws.BytesString
import Derived.MapKept
import Derived.ChangeMaps5
set_option linter.unusedVariables false
namespace Go.Proofs.YtlkkaielmdlefaaGreatDoor.R1
variable {P : Program} {ρ : Type}
theorem O3 (w:World)(t:TypeId)(op:BinOp)(k:IntKind)(a b:Int){κ:C->Option ρ}{r:ρ}(hne:op≠ .shl/\op≠ .shr)(h:iZ op k a b κ=some r):
    ∃(c:C)(v:Value),κ c=some r/\(binOp op t (.int k a) (.int k b)).run P w=.ok v w/\(∀S φ hh,aQ S w φ hh c v):=by
 cases op with
 |shl=>exact absurd rfl hne.1
 |shr=>exact absurd rfl hne.2
 |quo=>
  simp only[iZ]at h
  cases hb:decide (b=0)with
  |true=>rw[hb]at h;cases h
  |false=>rw[hb]at h;exact⟨_,_,h,by simp[binOp,Op.intDiv,of_decide_eq_false hb],λ_ _ _=>rfl⟩
 |rem=>
  simp only[iZ]at h
  cases hb:decide (b=0)with
  |true=>rw[hb]at h;cases h
  |false=>rw[hb]at h;exact⟨_,_,h,by simp[binOp,Op.intDiv,of_decide_eq_false hb],λ_ _ _=>rfl⟩
 |add=>exact⟨_,_,h,by simp[binOp,Op.intArith],λ_ _ _=>rfl⟩
 |sub=>exact⟨_,_,h,by simp[binOp,Op.intArith],λ_ _ _=>rfl⟩
 |mul=>exact⟨_,_,h,by simp[binOp,Op.intArith],λ_ _ _=>rfl⟩
 |and=>exact⟨_,_,h,by simp only[binOp,Op.intBits];rw[ae (by simp)];rfl,λ_ _ _=>rfl⟩
 |or=>exact⟨_,_,h,by simp only[binOp,Op.intBits];rw[ae (by simp)];rfl,λ_ _ _=>rfl⟩
 |xor=>exact⟨_,_,h,by simp only[binOp,Op.intBits];rw[ae (by simp)];rfl,λ_ _ _=>rfl⟩
 |andNot=>exact⟨_,_,h,by simp only[binOp,Op.intBits];rw[ae (by simp)];rfl,λ_ _ _=>rfl⟩
 |eql=>exact⟨_,_,h,by simp[binOp,Op.intCmp],λ_ _ _=>rfl⟩
 |neq=>exact⟨_,_,h,by simp[binOp,Op.intCmp],λ_ _ _=>rfl⟩
 |lss=>exact⟨_,_,h,by simp[binOp,Op.intCmp],λ_ _ _=>rfl⟩
 |leq=>exact⟨_,_,h,by simp[binOp,Op.intCmp],λ_ _ _=>rfl⟩
 |gtr=>exact⟨_,_,h,by simp[binOp,Op.intCmp],λ_ _ _=>rfl⟩
 |geq=>exact⟨_,_,h,by simp[binOp,Op.intCmp],λ_ _ _=>rfl⟩
theorem Bl (w:World)(t:TypeId)(op:BinOp)(k k':IntKind)(a b:Int){κ:C->Option ρ}{r:ρ}(ho:op=.shl\/op=.shr)(h:iZ op k a b κ=some r):
    ∃(c:C)(v:Value),κ c=some r/\(binOp op t (.int k a) (.int k' b)).run P w=.ok v w/\(∀S φ hh,aQ S w φ hh c v):=by
 rcases ho with rfl|rfl
 all_goals
  simp only[iZ]at h
  cases hb:decide (b<0)with
  |true=>rw[hb]at h;cases h
  |false=>rw[hb]at h;exact⟨_,_,h,by simp only[binOp,Op.shift];rw[ae (of_decide_eq_false hb)];rfl,λ_ _ _=>rfl⟩
theorem O4 (w:World)(t:TypeId)(op:BinOp)(a b:ByteArray){κ:C->Option ρ}{r:ρ}(h:rY op a b κ=some r):
    ∃(c:C)(v:Value),κ c=some r/\(binOp op t (.string a) (.string b)).run P w=.ok v w/\(∀S φ hh,aQ S w φ hh c v):=by
 cases op with
 |add=>
  simp only[rY]at h
  cases hb:decide (((a.size+b.size:Nat):Int)>9223372036854775807)with
  |true=>rw[hb]at h;cases h
  |false=>
   rw[hb]at h;refine⟨_,_,h,?_,λ_ _ _=>rfl⟩;simp only[binOp,Op.stringOp];rw[ae (by have:=of_decide_eq_false hb;simpa[IntKind.max,IntKind.signed,IntKind.bits]using this)];rfl
 |eql=>exact⟨_,_,h,by simp[binOp,Op.stringOp],λ_ _ _=>rfl⟩
 |neq=>exact⟨_,_,h,by simp[binOp,Op.stringOp],λ_ _ _=>rfl⟩
 |lss=>exact⟨_,_,h,by simp[binOp,Op.stringOp],λ_ _ _=>rfl⟩
 |leq=>exact⟨_,_,h,by simp[binOp,Op.stringOp],λ_ _ _=>rfl⟩
 |gtr=>exact⟨_,_,h,by simp[binOp,Op.stringOp],λ_ _ _=>rfl⟩
 |geq=>exact⟨_,_,h,by simp[binOp,Op.stringOp],λ_ _ _=>rfl⟩
 |_=>cases h
section
variable {S : Nat → Prop} {w : World} {φ : Nat → Value} {h : Nat → B}
theorem tb {tt:TT}(hT:cg P tt){t off:Nat}{cs:List C}{x:W1}{vs:Array Value}(ha:aW (aQ S w φ h) cs vs.toList)(hp:qm tt t cs off=some x):
    ∃v,(part t vs off).run P w=.ok v w/\gx S w φ h x v:=by
 unfold qm at hp;split at hp
 . rename_i i e;have ok:=hT t i e;split at hp
   . rename_i cs' e1 e2;injection hp with hp;subst hp;obtain⟨hle,rfl⟩:=n9 e2;refine⟨.agg (vs.extract off (off+i.size)),?_,⟨_,rfl,?_⟩⟩
     . simp[part,ok.zI,e1,ok.kd]
     . have:=(ha.drop off).take i.size;rw[show(vs.extract off (off+i.size)).toList=(vs.toList.drop off).take i.size by simp[List.extract_eq_take_drop]];exact this
   . rename_i c e1 e2;injection hp with hp;subst hp;obtain⟨hle,h2⟩:=n9 e2;have hx:=(ha.drop off).take i.size;rw[<-h2]at hx
     cases hv:(vs.toList.drop off).take i.size with
     |nil=>rw[hv]at hx;exact hx.elim
     |cons v r=>
      rw[hv]at hx
      have hv0:vs[off]? =some v:=by
       have:=congrArg (·[0]?) hv;simp only[List.getElem?_cons_zero,List.getElem?_take,nz,Nat.add_zero]at this;split at this
       . simpa using this
       . cases this
      exact⟨v,by simp[part,ok.zI,e1,hv0],hx.1⟩
   . cases hp
 . cases hp
theorem IM {tt:TT}(hT:cg P tt)(d:Nat)(rec:Nat->W1->W1->Option Bool)
    (hrec:∀{t x y b vx vy},rec t x y=some b->gx S w φ h x vx->gx S w φ h y vy->(Op.equalIn d t vx vy).run P w=.ok b w):
    ∀{fields:List Field}{fs:List (Nat×Nat)}{xs ys:List C}{vxs vys:Array Value}{b:Bool},fields.map (λf=>(f.offset,f.type))=fs->(∀f∈fields,f.name≠ "_")->
     aW (aQ S w φ h) xs vxs.toList->aW (aQ S w φ h) ys vys.toList->Ek rec tt fs xs ys=some b->(Op.eqFields d vxs vys fields).run P w=.ok b w:=by
 intro fields
 induction fields with
 |nil=>intro fs xs ys vxs vys b hf _ _ _ he;subst hf;simp[Ek]at he;subst he;simp[Op.eqFields]
 |cons f fields ih=>
  intro fs xs ys vxs vys b hf hn hx hy he;subst hf;simp only[cR,Ek]at he;split at he
  . rename_i a c e1 e2;split at he
    . rename_i p q e3 e4;injection he with he;subst he;obtain⟨v1,r1,h1⟩:=tb hT hx e1;obtain⟨v2,r2,h2⟩:=tb hT hy e2;have r3:=hrec e3 h1 h2;have r4:=ih rfl (λf hf=>hn f (bk _ hf)) hx hy e4;simp only[Op.eqFields];rw[ah (hn f (by simp))];simp only[Sem.run_bind,r1,r2,r3,Result.andThen_ok]
      cases p with
      |true=>simp only[bi,jg,iJ,bj];exact r4
      |false=>simp
    . cases he
  . cases he
theorem qd {tt:TT}(hT:cg P tt):∀{n d t:Nat}{x y:W1}{b:Bool}{vx vy:Value},n≤d->eqT tt n t x y=some b->gx S w φ h x vx->gx S w φ h y vy->(Op.equalIn d t vx vy).run P w=.ok b w:=by
 intro n
 induction n with
 |zero=>intro d t x y b vx vy _ he;cases he
 |succ n ih=>
  intro d t x y b vx vy hd he hx hy;obtain⟨d,rfl⟩:∃e,d=e+1:=⟨d-1,by omega⟩;simp only[eqT]at he;split at he
  . rename_i i e;have ok:=hT t i e;obtain⟨desc,hu,hk⟩:=ok.und;split at he
    . rename_i kk k a k' b' ek;rw[ek]at hk;cases desc<;>simp[eT]at hk;split at he
      . rename_i q;subst q;injection he with he;subst he;have hx:vx=.int k a:=hx;have hy:vy=.int k b':=hy;subst hx;subst hy;exact run_equalIn_int w d t k _ a b' hu
      . cases he
    . rename_i a b' ek;rw[ek]at hk;cases desc<;>simp[eT]at hk;injection he with he;subst he;have hx:vx=.bool a:=hx;have hy:vy=.bool b':=hy;subst hx;subst hy;exact run_equalIn_bool w d t a b' hu
    . rename_i a b' ek;rw[ek]at hk;cases desc<;>simp[eT]at hk;injection he with he;subst he;have hx:vx=.string a:=hx;have hy:vy=.string b':=hy;subst hx;subst hy;exact run_equalIn_string w d t a b' hu
    . rename_i fs xs ys ek
      cases hq:i.eq with
      |false=>rw[hq]at he;cases he
      |true=>
       rw[hq]at he;simp only[ab]at he;rw[ek]at hk
       cases desc with
       |struct fields=>
        simp only[eT]at hk;obtain⟨vxs,rfl,hxs⟩:=hx;obtain⟨vys,rfl,hys⟩:=hy;obtain⟨q1,q2,q3⟩:=ok.eq hq;have hf:P.fieldsOf t=fields:=by simp[Program.fieldsOf,hu]
        rw[run_equalIn_struct w d t vxs vys (by rw[hf];exact hu) q1,hf];exact IM hT d (eqT tt n) (λhe hx hy=>ih (by omega) he hx hy) hk.1 (q3 _ hu) hxs hys he
       |_=>simp[eT]at hk
    . cases he
  . cases he
end
theorem dO (w:World)(op:BinOp)(t:TypeId)(x y:Operand)(a b:Value)(ha:(∀cs,a≠ .agg cs)/\a≠ .nilIface):(eqGuard op t x y a b).run P w=.ok () w:=by unfold eqGuard;cases op<;>simp<;>(split<;>first|(exact absurd rfl ha.2)|(exact absurd rfl (ha.1 _))|rfl)
theorem vX {tt:TT}(hT:cg P tt){t:Nat}(h:Jk tt t=true):P.underlying t=some (.pointer (P.pointee t)):=by
 unfold Jk at h;split at h
 . rename_i i e;obtain⟨d,hu,hk⟩:=(hT t i e).und;split at h
   . rename_i e' ek;rw[ek]at hk;cases d<;>simp[eT]at hk;simp[Program.pointee,hu]
   . cases h
 . cases h
theorem yf {tt:TT}(hT:cg P tt){t:Nat}(h:M7 tt t=true):∃e,P.underlying t=some (.slice e):=by
 unfold M7 at h;split at h
 . rename_i i e;obtain⟨d,hu,hk⟩:=(hT t i e).und;split at h
   . rename_i e' ek;rw[ek]at hk;cases d<;>simp[eT]at hk;exact⟨_,hu⟩
   . cases h
 . cases h
theorem Kj {tt:TT}(hT:cg P tt){S:Nat->Prop}{w:World}{φ:Nat->Value}{hh:Nat->B}{t:Nat}{op:BinOp}{x y:V}{vx vy:Value}(ox oy:Operand)(hx:bB S w φ hh x vx)(hy:bB S w φ hh y vy)
    {κ:C->Option ρ} {r:ρ} (h:bin tt t op x y κ=some r):
    ∃(c:C)(v:Value),κ c=some r/\(do eqGuard op t ox oy vx vy;binOp op t vx vy:Sem Value).run P w=.ok v w/\aQ S w φ hh c v:=by
 unfold bin at h;split at h
 . rename_i k a k' b;have hx:vx=.int k a:=hx;have hy:vy=.int k' b:=hy;subst hx;subst hy;have hg:=dO (P:=P) w op t ox oy (.int k a) (.int k' b) ⟨λ_=>by simp,by simp⟩;simp only[Sem.run_bind,hg,Result.andThen_ok];split at h
   . obtain⟨c,v,h1,h2,h3⟩:=Bl (P:=P) w t .shl k k' a b (.inl rfl) h;exact⟨c,v,h1,h2,h3 _ _ _⟩
   . obtain⟨c,v,h1,h2,h3⟩:=Bl (P:=P) w t .shr k k' a b (.inr rfl) h;exact⟨c,v,h1,h2,h3 _ _ _⟩
   . rename_i n1 n2;split at h
     . rename_i q;subst q;obtain⟨c,v,h1,h2,h3⟩:=O3 (P:=P) w t op k a b ⟨λh=>n1 h,λh=>n2 h⟩ h;exact⟨c,v,h1,h2,h3 _ _ _⟩
     . cases h
 . rename_i a b;have hx:vx=.string a:=hx;have hy:vy=.string b:=hy;subst hx;subst hy;have hg:=dO (P:=P) w op t ox oy (.string a) (.string b) ⟨λ_=>by simp,by simp⟩;simp only[Sem.run_bind,hg,Result.andThen_ok];obtain⟨c,v,h1,h2,h3⟩:=O4 (P:=P) w t op a b h;exact⟨c,v,h1,h2,h3 _ _ _⟩
 . rename_i c;have hy:vy=.pointer none:=hy;subst hy
   have key:∀b,oV c=some b->∃q,vx=.pointer q/\q.isNone=b:=by
    intro b hb
    cases c with
    |nilp=>have hx:vx=.pointer none:=hx;simp[oV]at hb;subst hb;exact⟨none,hx,rfl⟩
    |ptr n i sz off=>obtain⟨_,g,_,hv⟩:=hx;simp[oV]at hb;subst hb;exact⟨_,hv,rfl⟩
    |dptr u x off=>obtain⟨a,cs,hv,_⟩:=hx;simp[oV]at hb;subst hb;exact⟨_,hv,rfl⟩
    |_=>simp[oV]at hb
   split at h
   . rename_i b e1 e2;obtain⟨q,rfl,hq⟩:=key b e2;have hg:=dO (P:=P) w .eql t ox oy (.pointer q) (.pointer none) ⟨λ_=>by simp,by simp⟩;simp only[Sem.run_bind,hg,Result.andThen_ok];refine⟨_,.bool b,h,?_,rfl⟩;simp[binOp,run_equal_pointer_nil w t q (vX hT e1),hq]
   . rename_i b e1 e2;obtain⟨q,rfl,hq⟩:=key b e2;have hg:=dO (P:=P) w .neq t ox oy (.pointer q) (.pointer none) ⟨λ_=>by simp,by simp⟩;simp only[Sem.run_bind,hg,Result.andThen_ok];refine⟨_,.bool (!b),h,?_,rfl⟩;simp[binOp,run_equal_pointer_nil w t q (vX hT e1),hq]
   . cases h
 . rename_i c;have hy:vy=.slice none 0 0:=hy;subst hy
   have key:∀b,yE c=some b->∃q l cc,vx=.slice q l cc/\q.isNone=b:=by
    intro b hb
    cases c with
    |nils=>have hx:vx=.slice none 0 0:=hx;simp[yE]at hb;subst hb;exact⟨none,0,0,hx,rfl⟩
    |slx u l=>obtain⟨_,a,l',cc,hv⟩:=hx;simp[yE]at hb;subst hb;exact⟨some a,l',cc,hv,rfl⟩
    |_=>simp[yE]at hb
   split at h
   . rename_i b e1 e2;obtain⟨q,l,cc,rfl,hq⟩:=key b e2;obtain⟨e,he⟩:=yf hT e1;have hg:=dO (P:=P) w .eql t ox oy (.slice q l cc) (.slice none 0 0) ⟨λ_=>by simp,by simp⟩;simp only[Sem.run_bind,hg,Result.andThen_ok];refine⟨_,.bool b,h,?_,rfl⟩;simp[binOp,run_equal_slice_nil w t e q l cc he,hq]
   . rename_i b e1 e2;obtain⟨q,l,cc,rfl,hq⟩:=key b e2;obtain⟨e,he⟩:=yf hT e1;have hg:=dO (P:=P) w .neq t ox oy (.slice q l cc) (.slice none 0 0) ⟨λ_=>by simp,by simp⟩;simp only[Sem.run_bind,hg,Result.andThen_ok];refine⟨_,.bool (!b),h,?_,rfl⟩;simp[binOp,run_equal_slice_nil w t e q l cc he,hq]
   . cases h
 . rename_i a b;have hx':vx=.bool a:=hx;have hy':vy=.bool b:=hy;subst hx';subst hy';have hg:=dO (P:=P) w op t ox oy (.bool a) (.bool b) ⟨λ_=>by simp,by simp⟩;simp only[Sem.run_bind,hg,Result.andThen_ok];split at h
   . rename_i q e;have he:=qd (S:=S) (w:=w) (φ:=φ) (h:=hh) hT (n:=50) (d:=10000) (by omega) e rfl rfl;exact⟨_,.bool q,h,by simp[binOp,Op.equal,Op.maxDepth,he],rfl⟩
   . rename_i q e;have he:=qd (S:=S) (w:=w) (φ:=φ) (h:=hh) hT (n:=50) (d:=10000) (by omega) e rfl rfl;exact⟨_,.bool (!q),h,by simp[binOp,Op.equal,Op.maxDepth,he],rfl⟩
   . cases h
 . rename_i a b
   have hguard:∀q,eqT tt 50 t (.agg a) (.agg b)=some q->P.eqGuardType P.depth t=false:=by
    intro q he;rw[show(50:Nat)=49+1 from rfl,eqT]at he
    cases e:assoc tt t with
    |none=>rw[e]at he;cases he
    |some i=>
     cases hq:i.eq with
     |true=>exact((hT t i e).eq hq).2.1
     |false=>cases ek:i.k<;>simp[e,ek,hq]at he
   split at h
   . rename_i q e;have he:=qd (S:=S) (w:=w) (φ:=φ) (h:=hh) hT (n:=50) (d:=10000) (by omega) e hx hy;obtain⟨xs,rfl,_⟩:=hx;obtain⟨ys,rfl,_⟩:=hy;have hg:=run_eqGuard_agg (P:=P) w .eql t ox oy xs ys (hguard q e);simp only[Sem.run_bind,hg,Result.andThen_ok];exact⟨_,.bool q,h,by rw[run_eql_struct,he];rfl,rfl⟩
   . rename_i q e;have he:=qd (S:=S) (w:=w) (φ:=φ) (h:=hh) hT (n:=50) (d:=10000) (by omega) e hx hy;obtain⟨xs,rfl,_⟩:=hx;obtain⟨ys,rfl,_⟩:=hy;have hg:=run_eqGuard_agg (P:=P) w .neq t ox oy xs ys (hguard q e);simp only[Sem.run_bind,hg,Result.andThen_ok];exact⟨_,.bool (!q),h,by rw[run_neq_struct,he];rfl,rfl⟩
   . cases h
 . cases h
end Go.Proofs.YtlkkaielmdlefaaGreatDoor.R1
namespace Go.Proofs.YtlkkaielmdlefaaGreatDoor.R1
variable {P : Program} {ρ : Type}
theorem dm.sl {t:TypeId}{i:TI}{e:Nat}(ok:dm P t i)(ek:i.k=.sl e):P.underlying t=some (.slice e):=by obtain⟨d,hd,hk⟩:=ok.und;rw[ek]at hk;cases d<;>simp[eT]at hk;subst hk;exact hd
theorem dm.arr {t:TypeId}{i:TI}{n e:Nat}(ok:dm P t i)(ek:i.k=.arr n e):P.underlying t=some (.array n e):=by obtain⟨d,hd,hk⟩:=ok.und;rw[ek]at hk;cases d<;>simp[eT]at hk;obtain⟨rfl,rfl⟩:=hk;exact hd
theorem dm.int {t:TypeId}{i:TI}{k:IntKind}(ok:dm P t i)(ek:i.k=.int k):P.underlying t=some (.int k):=by obtain⟨d,hd,hk⟩:=ok.und;rw[ek]at hk;cases d<;>simp[eT]at hk;subst hk;exact hd
theorem dm.str {t:TypeId}{i:TI}(ok:dm P t i)(ek:i.k=.str):P.underlying t=some .string:=by obtain⟨d,hd,hk⟩:=ok.und;rw[ek]at hk;cases d<;>simp[eT]at hk;exact hd
theorem dm.struct {t:TypeId}{i:TI}{fs:List (Nat×Nat)}(ok:dm P t i)(ek:i.k=.struct fs):∃fields,P.underlying t=some (.struct fields)/\fields.toList.map (λf=>(f.offset,f.type))=fs/\∀f∈fields.toList,∃i,P.info? f.type=some i/\i.size≠0:=by obtain⟨d,hd,hk⟩:=ok.und;rw[ek]at hk;cases d<;>simp only[eT]at hk;exact⟨_,hd,hk⟩
def aU (P:Program)(cx:Cx)(φ:Nat->Value)(S:Nat->Prop)(st:St)(a:Act)(w:World)(o:Oper)(κ:V->St->Option ρ)(r:ρ):Prop:=
 ∃v st' φ' S' v' w',κ v st'=some r/\((execOp a.eval o).run P w=.ok (.value v') w'∨((execOp a.eval o).run P w=.ok .skip w'/\v'=undef))/\aY cx φ' S' st'.h w'/\st'.t=st.t/\
  bE S S' w w' φ φ' st.h st'.h/\bB S' w' φ' st'.h v v'
section
variable {cx : Cx} {nt : Nat} {φ : Nat → Value} {S : Nat → Prop} {st : St} {a : Act} {w : World}
theorem aU.pure {o:Oper}{κ:V->St->Option ρ}{r:ρ}(m:bA cx nt φ S st a w){v:V}{v':Value}(hk:κ v st=some r)(hr:(execOp a.eval o).run P w=.ok (.value v') w)(hv:bB S w φ st.h v v'):aU P cx φ S st a w o κ r:=
 ⟨v,st,φ,S,v',w,hk,.inl hr,m.m,rfl,bE.refl _ _ _ _,hv⟩
theorem kc (m:bA cx nt φ S st a w){x:Operand}{c:C}(h:(ay st x).one=some c):aQ S w φ st.h c (a.eval x):=EY (cD m x) h
theorem bO (m:bA cx nt φ S st a w){x:Operand}{v:V}(h:ay st x=v):bB S w φ st.h v (a.eval x):=h▸cD m x
theorem xe {t:TypeId}{i:TI}(ok:dm P t i)(hz:i.zero.length=i.size)(S:Nat->Prop)(w:World)(φ:Nat->Value)(h:Nat->B):
    ∃z,(zeroValue t).run P w=.ok z w/\aW (aQ S w φ h) i.zero z.cells.toList/\z.cells.size=i.size:=by
 obtain⟨inf,z,h1,_,_,h4,h5,h6⟩:=ok.info;exact⟨z,by simp[zeroValue,typeInfo,h1,h4],cL (h6 hz),h5⟩
theorem qO :∀{vs:List Value}{cs:List C},dF vs=some cs->bn cs=[]
 |[],cs,hv=>by simp[dF]at hv;subst hv;rfl
 |v::r,cs,hv=>by
  simp only[dF]at hv
  cases e:lh v with
  |none=>rw[e]at hv;cases hv
  |some c=>
   rw[e]at hv
   cases e2:dF r with
   |none=>rw[e2]at hv;cases hv
   |some cs'=>
    rw[e2]at hv;injection hv with hv;subst hv
    have hc:∀n,c≠ .row n:=by
     rintro n rfl
     cases v with
     |slice x y z=>simp only[lh]at e;split at e<;>cases e
     |pointer x=>cases x<;>cases e
     |map x=>cases x<;>cases e
     |func g x y=>simp only[lh]at e;split at e<;>cases e
     |_=>cases e
    cases c with
    |row n=>exact absurd rfl (hc n)
    |_=>simp only[bn];exact qO e2
theorem nH {t:TypeId}{i:TI}(ok:dm P t i)(hz:i.zero.length=i.size):bn i.zero=[]:=by obtain⟨inf,z,h1,_,_,h4,h5,h6⟩:=ok.info;exact qO (h6 hz)
theorem aY.wD {h:Nat->B}(m:aY cx φ S h w){dst:Nat}(hf:h dst=.free)(hgl:bZ dst=false){t:TypeId}{u:U}{l:List (El u)}{cells:Array Value}(hu:0<u.n)(hl:b9 (Rep S w u) l cells.toList)(hn:l.length≤Go.maxLen):
    aY cx (upd φ dst (.slice (some ⟨w.heap.size,0,none⟩) l.length l.length)) S (upd h dst (.row t u l)) (w.alloc (.cells cells t))/\
     bE S S w (w.alloc (.cells cells t)) φ (upd φ dst (.slice (some ⟨w.heap.size,0,none⟩) l.length l.length)) h (upd h dst (.row t u l)):=
 m.newRow none (by simp) (dst:=dst) hf hgl (w':=w.alloc (.cells cells t)) (World.grownBy_alloc w _ none) hu
  (World.ownsRow_lit (e:=t) w cells l.length (eC _) hn (by rw[<-cX];exact hl.length)) hl (λg hg=>.inr (fM (ig.1 hg).symm))
theorem JU {cfg:Cfg}(hT:cg P cfg.tt)(m:bA cx nt φ S st a w){o:Oper}{t:TypeId}(ho:o.op=.alloc t){κ:V->St->Option ρ}{r:ρ}(h:aS cfg st o κ=some r):aU P cx φ S st a w o κ r:=by
 simp only[aS,ho]at h;split at h
 . rename_i i e;have ok:=hT t i e;have hrun:∀z,(zeroValue t).run P w=.ok z w->(execOp a.eval o).run P w=.ok (.value (.pointer (some ⟨w.heap.size,0,none⟩))) (w.alloc (.cells z.cells t)):=by intro z hz;simp[execOp,ho,Instr.alloc,hz,newVar,Go.newRow]
   split at h
   . rename_i n e' ek;split at h
     . rename_i ie e1;split at h
       . rename_i l e2
         cases hb:Nat.ble n 16777216&&Nat.beq i.zero.length i.size with
         |false=>rw[hb]at h;cases h
         |true=>rw[hb]at h;simp only[ab]at h;rw[aH]at hb;obtain⟨hu,hf,hgl,h⟩:=fT h;obtain⟨z,h1,h2,h3⟩:=xe ok (aR hb.2) S w φ st.h;obtain⟨hl,hn⟩:=jn m.m.b (λ_ h=>h) h2 e2 (by rw[nH ok (aR hb.2)];simp);have hbn:=nu hb.1;obtain⟨hm,hlat⟩:=m.m.wD (dst:=Oper.name o) hf hgl (t:=t) hu hl (by rw[hn];simp only[Go.maxLen];omega);exact⟨_,_,_,S,_,_,h,.inl (hrun z h1),hm,rfl,hlat,by show(upd st.h _ _ _).live=true;rw[aj];rfl,w.heap.size,by rw[aj];rfl,by simp⟩
       . cases h
     . cases h
   . cases hb:Nat.beq i.zero.length i.size with
     |false=>rw[hb]at h;cases h
     |true=>rw[hb]at h;simp only[ab]at h;obtain⟨hf,hgl,h⟩:=eQ h;obtain⟨z,h1,h2,h3⟩:=xe ok (aR hb) S w φ st.h;obtain⟨hm,hlat⟩:=m.m.K3 (dst:=Oper.name o) hf hgl (t:=t) h2;exact⟨_,_,_,S,_,_,h,.inl (hrun z h1),hm,rfl,hlat,by show(upd st.h _ _ _).live=true;rw[aj];rfl,w.heap.size,by rw[aj];rfl,by simp⟩
 . cases h
theorem Ph {cfg:Cfg}(hT:cg P cfg.tt)(m:bA cx nt φ S st a w){o:Oper}{t:TypeId}{x:Operand}(ho:o.op=.box t x){κ:V->St->Option ρ}{r:ρ}(h:aS cfg st o κ=some r):aU P cx φ S st a w o κ r:=by
 simp only[aS,ho]at h;split at h
 . rename_i i cs e e0;have hc:=lq (cD m x) e0;have hrun:(execOp a.eval o).run P w=.ok (.value (.pointer (some ⟨w.heap.size,0,none⟩))) (w.alloc (.cells (a.eval x).cells t)):=by simp[execOp,ho,Instr.box,newVar,Go.newRow]
   split at h
   . rename_i n e' ek;split at h
     . rename_i ie e1;split at h
       . rename_i l e2
         cases hb:Nat.ble n 16777216 with
         |false=>rw[hb]at h;cases h
         |true=>rw[hb]at h;simp only[ab]at h;obtain⟨hu,hf,hgl,h⟩:=fT h;obtain⟨S',hS,m',hrow⟩:=m.m.aZ (bn cs);have hlat0:=bE.uw (φ:=φ) (h:=st.h) (w:=w) hS (bn cs);obtain⟨hl,hn⟩:=jn m.m.b hS hc e2 (λn hn hr=>hrow n hn (vn hr));have hbn:=nu hb;obtain⟨hm,hlat⟩:=m'.wD (dst:=Oper.name o) hf hgl (t:=t) hu hl (by rw[hn];simp only[Go.maxLen];omega);exact⟨_,_,_,S',_,_,h,.inl hrun,hm,rfl,hlat0.trans hlat,by show(upd (aZ st.h (bn cs)) (Oper.name o) _ (Oper.name o)).live=true;rw[aj];rfl,w.heap.size,by rw[aj];rfl,by simp⟩
       . cases h
     . cases h
   . obtain⟨hf,hgl,h⟩:=eQ h;obtain⟨hm,hlat⟩:=m.m.K3 (dst:=Oper.name o) hf hgl (t:=t) hc;exact⟨_,_,_,S,_,_,h,.inl hrun,hm,rfl,hlat,by show(upd st.h _ _ _).live=true;rw[aj];rfl,w.heap.size,by rw[aj];rfl,by simp⟩
 . cases h
theorem ng (m:bA cx nt φ S st a w):∀(parts:List (Nat×Operand)),aW (λ(p:Nat×V)(q:Nat×Value)=>p.1=q.1/\bB S w φ st.h p.2 q.2) (parts.map λp=>(p.1,ay st p.2)) (parts.map λp=>(p.1,a.eval p.2))
 |[]=>trivial
 |p::r=>⟨⟨rfl,cD m p.2⟩,ng m r⟩
theorem AF {p1 p2:Nat->Option (Nat×Nat)}(hp:∀j q,p1 j=some q->p2 j=some q):∀{parts:List (Nat×Value)}{cells r:Array Value},Instr.fill p1 cells parts=some r->Instr.fill p2 cells parts=some r
 |[],cells,r,h=>h
 |(i,v)::parts,cells,r,h=>by
  simp only[Instr.fill]at h⊢
  cases e:p1 i with
  |none=>rw[e]at h;cases h
  |some q=>
   rw[e]at h;rw[hp i q e];simp only at h⊢;split at h
   . cases h
   . rename_i c;rw[ae c];exact AF hp h
theorem JV {cfg:Cfg}(hT:cg P cfg.tt)(m:bA cx nt φ S st a w){o:Oper}{t:TypeId}{parts:Array (Nat×Operand)}(ho:o.op=.build t parts){κ:V->St->Option ρ}{r:ρ}(h:aS cfg st o κ=some r):aU P cx φ S st a w o κ r:=by
 simp only[aS,ho]at h;split at h
 . rename_i i e;have ok:=hT t i e;split at h
   . rename_i fs efs;split at h
     . rename_i cs e1 e2;obtain⟨inf,z,q1,q2,q3,q4,q5,q6⟩:=ok.info;obtain⟨d,hu,hk⟩:=ok.und
       cases ek:i.k with
       |struct fs'=>
        rw[ek]at efs hk;injection efs with efs;subst efs
        cases d with
        |struct fields=>
         simp only[eT]at hk;obtain⟨hk1,hk2⟩:=hk;have hz:=cL (S:=S) (w:=w) (φ:=φ) (h:=st.h) (q6 (aR e2))
         obtain⟨places,hpl,hpl2⟩:∃places,fields.toList.mapM (λf=>(P.info? f.type).map λi=>(f.offset,i.size))=some places/\∀(i off t s:Nat),fs'[i]? =some (off,t)->(cfg.ty t).map (·.size)=some s->places[i]? =some (off,s):=by
          subst hk1;generalize fields.toList=fl at hk2;clear hu e1
          induction fl with
          |nil=>exact⟨[],rfl,by simp⟩
          |cons f fl ih=>
           obtain⟨pl,hp1,hp2⟩:=ih (λf hf=>hk2 f (bk _ hf));obtain⟨inf2,hi2,_⟩:=hk2 f (by simp);refine⟨(f.offset,inf2.size)::pl,by simp[List.mapM_cons,hi2,hp1],λj off t s hj hs=> ?_⟩
           cases j with
           |zero=>
            simp only[cR,List.getElem?_cons_zero,jh,Prod.mk.injEq]at hj;obtain⟨rfl,rfl⟩:=hj
            cases ht:cfg.ty f.type with
            |none=>rw[ht]at hs;cases hs
            |some ti=>
             rw[ht]at hs;obtain⟨inf3,_,h3,h4,_⟩:=(hT f.type ti ht).info;rw[hi2]at h3;injection h3 with h3;subst h3;simp only[Option.map_some,jh]at hs;subst hs;simp[h4]
           |succ j=>simp only[cR,List.getElem?_cons_succ]at hj⊢;exact hp2 j off t s hj hs
         obtain⟨cells',hf,hrel⟩:=lf hpl2 (ng m parts.toList) hz e1;have hb:P.built t ((parts.map λ(i,x)=>(i,a.eval x)).toList)=some cells':=by unfold Program.built;simp only[q1,hu,q4,hpl];rw[oX];exact hf
         exact aU.pure m h (by simp[execOp,ho,run_build w t _ cells' hb]) ⟨cells',rfl,hrel⟩
        |_=>simp[eT]at hk
       |arr n el=>
        rw[ek]at efs hk;simp only[fieldsOf]at efs;split at efs
        case h_2=>cases efs
        rename_i ie e3;injection efs with efs;subst efs;have hua:=ok.arr ek;obtain⟨inf3,_,h3,h4,_⟩:=(hT el ie e3).info;have hz:=cL (S:=S) (w:=w) (φ:=φ) (h:=st.h) (q6 (aR e2))
        have hpl2:∀(j off t s:Nat),((List.range n).map λj=>(j*ie.size,el))[j]? =some (off,t)->(cfg.ty t).map (·.size)=some s->((List.range n).map λj=>(j*inf3.size,inf3.size))[j]? =some (off,s):=by
         intro j off t s hj hs;rw[iF]at hj⊢;obtain⟨q,hq,hj⟩:=vH.1 hj;injection hj with hj1 hj2;subst hj2;rw[e3]at hs;injection hs with hs;rw[hq];simp only[Option.map_some,jh,Prod.mk.injEq];have:inf3.size=ie.size:=by omega
         exact⟨by rw[this];exact hj1,by rw[this];exact hs⟩
        obtain⟨cells',hf,hrel⟩:=lf hpl2 (ng m parts.toList) hz e1;have hb:P.built t ((parts.map λ(i,x)=>(i,a.eval x)).toList)=some cells':=by unfold Program.built;simp only[q1,hua,q4,h3];rw[oX];refine AF ?_ hf;intro j p hj;simp only[List.getElem?_toArray,iF]at hj;obtain⟨q,hq,hj⟩:=vH.1 hj;obtain⟨hq1,hq2⟩:=gq.1 hq;rw[List.getElem_range]at hq2;subst hq2;rw[<-hj]
        exact aU.pure m h (by simp[execOp,ho,run_build w t _ cells' hb]) ⟨cells',rfl,hrel⟩
       |_=>rw[ek]at efs;cases efs
     . cases h
   . cases h
 . cases h
theorem yF {cfg:Cfg}(hT:cg P cfg.tt)(m:bA cx nt φ S st a w){o:Oper}{t:TypeId}{len:Nat}{parts:Array (Nat×Operand)}(ho:o.op=.buildSlice t len parts){κ:V->St->Option ρ}{r:ρ}(h:aS cfg st o κ=some r):aU P cx φ S st a w o κ r:=by
 simp only[aS,ho]at h;split at h
 . rename_i i e;have ok:=hT t i e;split at h
   . rename_i e' ek;split at h
     . rename_i ie e1;split at h
       . rename_i sh esh;split at h
         . rename_i l ns e3;split at h
           . rename_i hdn hsu
             have hsu:sh.u=ie.u:=by
              by_cases q:sh.u=ie.u
              . exact q
              . rw[ae q]at hsu;cases hsu
             cases hb:Nat.beq l.length len&&Nat.ble (len*ie.size) (2^24)with
             |false=>rw[hb]at h;cases h
             |true=>
              rw[hb]at h;simp only[ab]at h;rw[aH]at hb;have hll:=aR hb.1;have hb:=nu hb.2;obtain⟨hu,hf,hgl,h⟩:=qK h;have oke:=hT e' ie e1;obtain⟨hus,_⟩:=oke.u (by rw[<-hsu];exact hu);rw[<-hsu]at hus;have hd:=ok.sl ek;obtain⟨inf,zv,q1,q2,q3,q4,q5,q6⟩:=oke.info;have hzsz:zv.cells.size=sh.u.n:=by rw[q5,hus]
              have hlp:len=parts.toList.length:=by
               have:∀(ps:List (Nat×V))(i:Nat)(l:List (El sh.u))(ns:List Nat),dG st.h sh i ps=some (l,ns)->l.length=ps.length:=by
                intro ps
                induction ps with
                |nil=>intro i l ns h;simp only[dG]at h;injection h with h;injection h with h1 h2;subst h1;rfl
                |cons p ps ih=>
                 intro i l ns h;obtain⟨pi,pv⟩:=p
                 cases pv with
                 |v x=>
                  simp only[dG]at h;split at h
                  . split at h
                    . rename_i e9;injection h with h;injection h with h1 h2;subst h1;rw[ax,ax,ih _ _ _ e9]
                    . cases h
                  . cases h
                 |_=>cases h
               rw[<-hll,this _ _ _ _ e3,dJ]
              have hmade:(madeCells zv.cells (len*zv.cells.size)).toList.length=len*sh.u.n:=by rw[cX,size_madeCells,hzsz]
              obtain⟨cells',mid,F,hfill,hc',hol,_,hF,hnd,hmut⟩:=tw m.m.b m.m.apart (o:=sh) (size:=ie.size) hus.symm (ng m parts.toList) (i:=0) (cells:=madeCells zv.cells (len*zv.cells.size)) (done:=[]) (rest:=(madeCells zv.cells (len*zv.cells.size)).toList) rfl (by simp) (by rw[hmade,hus,dJ,hlp]) e3;have hc'':cells'.toList=mid:=hc'
              obtain⟨φ',hm,hlat,hpv⟩:=m.m.Mo (t:=e') hmut hf hgl hu (by rw[hc''];exact hol) hF (hnd (jp hdn)) (by
               rw[hll];have:len≤len*ie.size:=pR _ (by omega)
               simp only[Go.maxLen];omega)
              have hrun:(Instr.buildSlice t len (parts.map λ(i,x)=>(i,a.eval x))).run P w=.ok (.slice (some ⟨w.heap.size,0,none⟩) len len) (w.alloc (.cells cells' e')):=by
               by_cases hlen:len=0
               . subst hlen;have:l=[]:=db hll;subst this;have hc:cells'.toList=[]:=by rw[hc''];exact hol.1
                 have hc':cells'= #[]:=by cases cells';simp_all
                 subst hc'
                 have hfill':Instr.fill (λi=>some (i*ie.size,ie.size)) #[] (parts.toList.map λp=>(p.1,a.eval p.2))=some #[]:=by
                  have:madeCells zv.cells (0*zv.cells.size)= #[]:=by simp[madeCells]
                  rw[this]at hfill;exact hfill
                 simp[Instr.buildSlice,run_underlying hd,sizeOf,typeInfo,q1,q2,Go.newRow,hfill',show Array.range 0= #[]from rfl]
               . refine run_buildSlice w t e' len _ cells' inf zv hd q1 q4 (by rw[q2];omega) (by rw[q2];exact Nat.ne_of_gt (Nat.mul_pos (by omega) (by omega))) ?_;rw[q2,oX];have:(Array.range (len*ie.size)).map (zv.cells[· %zv.cells.size]!)=madeCells zv.cells (len*zv.cells.size):=by unfold madeCells;rw[q5]
                 rw[this];exact hfill
              refine⟨_,_,φ',S,.slice (some ⟨w.heap.size,0,none⟩) len len,_,h,.inl ?_,hm,rfl,hlat,?_⟩
              . simp[execOp,ho,hrun]
              . refine⟨by show(upd (cC st.h ns) (Oper.name o) _ (Oper.name o)).live=true;rw[aj];rfl,by rw[hpv,hll],_,_,_,rfl⟩
           . cases h
         . cases h
       split at h
       . rename_i z e2;split at h
         . rename_i l e3
           cases hb:Nat.ble (len*ie.size) (2^24)with
           |false=>rw[hb]at h;cases h
           |true=>
            rw[hb]at h;simp only[ab]at h;have hb:=nu hb;obtain⟨hu,hf,hgl,h⟩:=fT h;have oke:=hT e' ie e1;obtain⟨hus,_⟩:=oke.u hu;have hd:=ok.sl ek;have hz0:ie.zero.length=ie.size:=by rw[kY e2,hus]
            obtain⟨inf,zv,q1,q2,q3,q4,q5,q6⟩:=oke.info;have hz:=cL (S:=S) (w:=w) (φ:=φ) (h:=st.h) (q6 hz0);obtain⟨S',hS,m',hrow⟩:=m.m.aZ (eA (parts.toList.map λp=>(p.1,ay st p.2)));have hrz:Rep S' w ie.u z zv.cells.toList:=ef m.m.b hS hz e2 (by rw[nH oke hz0];simp);have hzsz:zv.cells.size=ie.u.n:=by rw[q5,hus]
            have hflat:=gX zv.cells (by rw[hzsz];exact hu) len;have hrl:b9 (Rep S' w ie.u) (List.replicate len z) (madeCells zv.cells (len*zv.cells.size)).toList:=by rw[hflat];exact hH hrz len
            obtain⟨cells',hfill,hl⟩:=rV m.m.b hS (u:=ie.u) (size:=ie.size) hus.symm (ng m parts.toList) hrl e3 (λn hn hr=>hrow n hn (vn hr))
            have hll:l.length=len:=by
             have:∀(parts:List (Nat×V))(l l':List (El ie.u)),dN st.h parts l=some l'->l'.length=l.length:=by
              intro parts
              induction parts with
              |nil=>intro l l' h;simp[dN]at h;subst h;rfl
              |cons p parts ih=>
               intro l l' h;obtain⟨pi,pv⟩:=p;simp only[dN]at h;split at h
               . split at h
                 . cases hq:Nat.blt pi l.length with
                   |false=>rw[hq]at h;cases h
                   |true=>rw[hq]at h;simp only[ab]at h;rw[ih _ _ h];simp
                 . cases h
               . cases h
             rw[this _ _ _ e3];simp
            have hlat0:=bE.uw (φ:=φ) (h:=st.h) (w:=w) hS (eA (parts.toList.map λp=>(p.1,ay st p.2)))
            obtain⟨hm,hlat⟩:=m'.wD (dst:=Oper.name o) hf hgl (t:=e') hu hl (by
             rw[hll];have:len≤len*ie.size:=pR _ (by omega)
             simp only[Go.maxLen];omega)
            have hrun:(Instr.buildSlice t len (parts.map λ(i,x)=>(i,a.eval x))).run P w=.ok (.slice (some ⟨w.heap.size,0,none⟩) len len) (w.alloc (.cells cells' e')):=by
             by_cases hlen:len=0
             . subst hlen;have:l=[]:=db hll;subst this;have hc:cells'.toList=[]:=hl;have hc':cells'= #[]:=by cases cells';simp_all
               subst hc'
               have hfill':Instr.fill (λi=>some (i*ie.size,ie.size)) #[] (parts.toList.map λp=>(p.1,a.eval p.2))=some #[]:=by
                have:madeCells zv.cells (0*zv.cells.size)= #[]:=by simp[madeCells]
                rw[this]at hfill;exact hfill
               simp[Instr.buildSlice,run_underlying hd,sizeOf,typeInfo,q1,q2,Go.newRow,hfill',show Array.range 0= #[]from rfl]
             . refine run_buildSlice w t e' len _ cells' inf zv hd q1 q4 (by rw[q2];omega) (by rw[q2];exact Nat.ne_of_gt (Nat.mul_pos (by omega) (by omega))) ?_;rw[q2,oX];have:(Array.range (len*ie.size)).map (zv.cells[· %zv.cells.size]!)=madeCells zv.cells (len*zv.cells.size):=by unfold madeCells;rw[q5]
               rw[this];exact hfill
            refine⟨_,_,_,S',.slice (some ⟨w.heap.size,0,none⟩) len len,_,h,.inl ?_,hm,rfl,hlat0.trans hlat,?_⟩
            . simp[execOp,ho,hrun]
            . refine⟨by show(upd (aZ st.h (eA (parts.toList.map λp=>(p.1,ay st p.2)))) (Oper.name o) _ (Oper.name o)).live=true;rw[aj];rfl,by rw[aj,hll];rfl,_,_,_,rfl⟩
         . cases h
       . cases h
     . cases h
   . cases h
 . cases h
theorem L6 {cfg:Cfg}(hT:cg P cfg.tt)(m:bA cx nt φ S st a w){o:Oper}{t:TypeId}{x:Operand}(ho:o.op=.load t x){κ:V->St->Option ρ}{r:ρ}(h:aS cfg st o κ=some r):aU P cx φ S st a w o κ r:=by
 simp only[aS,ho]at h;split at h
 . rename_i i c e e0
   cases hb:cfg.opens.any (Nat.beq (Oper.name o))with
   |true=>
    rw[hb]at h;obtain⟨v,v',φ',h',h1,h2,h3,h4,h5⟩:=zz (hT t i e) m.m (kc m e0) h;exact⟨v,_,φ',S,v',w,h1,.inl (by simp[execOp,ho,h2]),h3,rfl,h4,h5⟩
   |false=>rw[hb]at h;obtain⟨v,v',h1,h2,h3⟩:=nZ (hT t i e) m.m (kc m e0) h;exact aU.pure m h1 (by simp[execOp,ho,h2]) h3
 . cases h
theorem J0 {cfg:Cfg}(hT:cg P cfg.tt)(m:bA cx nt φ S st a w){o:Oper}{t:TypeId}{x y:Operand}(ho:o.op=.store t x y){κ:V->St->Option ρ}{r:ρ}(h:aS cfg st o κ=some r):aU P cx φ S st a w o κ r:=by
 simp only[aS,ho]at h;split at h
 . rename_i i c e e0;obtain⟨st',φ',S',w',h1,h2,h3,h4,h5⟩:=F5 (hT t i e) m.m (kc m e0) (cD m y) h;exact⟨_,_,φ',S',undef,w',h1,.inr ⟨by simp[execOp,ho,h2],rfl⟩,h3,h4,h5,rfl⟩
 . cases h
theorem Bu (m:bA cx nt φ S st a w){cfg:Cfg}{o:Oper}{x:Operand}(ho:o.op=.move x\/o.op=.assign x){κ:V->St->Option ρ}{r:ρ}(h:aS cfg st o κ=some r):aU P cx φ S st a w o κ r:=by rcases ho with ho|ho<;>(simp only[aS,ho]at h;exact aU.pure m h (by simp[execOp,ho]) (cD m x))
theorem L8 (m:bA cx nt φ S st a w){cfg:Cfg}{o:Oper}{c x y:Operand}(ho:o.op=.pick c x y){κ:V->St->Option ρ}{r:ρ}(h:aS cfg st o κ=some r):aU P cx φ S st a w o κ r:=by
 simp only[aS,ho]at h;split at h
 . rename_i b e;have hb:a.eval c=.bool b:=bO m e
   cases b with
   |true=>exact aU.pure m h (by simp[execOp,ho,hb,asBool]) (cD m x)
   |false=>exact aU.pure m h (by simp[execOp,ho,hb,asBool]) (cD m y)
 . cases h
theorem BU (m:bA cx nt φ S st a w){cfg:Cfg}{o:Oper}{x:Operand}(ho:o.op=.nilCheck x){κ:V->St->Option ρ}{r:ρ}(h:aS cfg st o κ=some r):aU P cx φ S st a w o κ r:=by
 simp only[aS,ho]at h;have hx:=cD m x;split at h
 . rename_i n i sz off e;rw[e]at hx;obtain⟨_,g,_,hv⟩:=id hx;exact aU.pure m h (by simp[execOp,ho,hv]) (hv▸hx)
 . rename_i u y off e;rw[e]at hx;obtain⟨b,cs,hv,_⟩:=id hx;exact aU.pure m h (by simp[execOp,ho,hv]) (hv▸hx)
 . rename_i f e;rw[e]at hx;have hv:a.eval x=.func (.func f) #[] #[]:=hx;exact aU.pure m h (by simp[execOp,ho,hv]) rfl
 . rename_i g c e;rw[e]at hx
   have key:∀(g:C)(v:Value)(f:Fn)(cs:Array Value),aQ S w φ st.h g v->v=.func f #[] cs->∃k,f=.func k:=by
    intro g
    induction g with
    |fn k=>intro v f cs hr hv;have hr:v=_:=hr;rw[hv]at hr;injection hr with h1;exact⟨k,h1⟩
    |cap g c ih _=>intro v f cs hr hv;obtain⟨f',cs',x',h1,_,h3⟩:=hr;rw[hv]at h3;injection h3 with h4;subst h4;exact ih _ _ _ h1 rfl
    |row n=>intro v f cs hr hv;obtain⟨_,_,A,l,c,h1⟩:=hr;rw[hv]at h1;cases h1
    |ptr n i sz off=>intro v f cs hr hv;obtain⟨_,g,_,h1⟩:=hr;rw[hv]at h1;cases h1
    |dptr u x off=>intro v f cs hr hv;obtain⟨b,cs',h1,_⟩:=hr;rw[hv]at h1;cases h1
    |sl u l=>intro v f cs hr hv;obtain⟨A,cap,cs',h1,_⟩:=hr;rw[hv]at h1;cases h1
    |slx u l=>intro v f cs hr hv;obtain⟨_,a,k,c,h1⟩:=hr;rw[hv]at h1;cases h1
    |tail n i sz=>intro v f cs hr hv;obtain⟨_,A,l,c,_,_,h1⟩:=hr;rw[hv]at h1;cases h1
    |mapr b n=>intro v f cs hr hv;obtain⟨_,q,h1,_⟩:=hr;rw[hv]at h1;cases h1
    |_=>intro v f cs hr hv;have hr:v=_:=hr;rw[hv]at hr;cases hr
   obtain⟨f,cs,y,h1,h2,hv⟩:=id hx;obtain⟨k,rfl⟩:=key g _ f cs h1 rfl;exact aU.pure m h (by simp[execOp,ho,hv]) (hv▸hx)
 . cases h
theorem Pg {cfg:Cfg}(hT:cg P cfg.tt)(m:bA cx nt φ S st a w){o:Oper}{op:BinOp}{t t':TypeId}{x y:Operand}(ho:o.op=.binOp op t x y t'){κ:V->St->Option ρ}{r:ρ}(h:aS cfg st o κ=some r):aU P cx φ S st a w o κ r:=by
 simp only[aS,ho]at h;obtain⟨c,v,h1,h2,h3⟩:=Kj hT x y (cD m x) (cD m y) h;have hrun:(execOp a.eval o).run P w=.ok (.value v) w:=by simp only[execOp,ho];rw[Sem.run_bind,h2];rfl
 exact aU.pure m h1 hrun h3
theorem TL (m:bA cx nt φ S st a w){cfg:Cfg}{o:Oper}{op:UnOp}{t:TypeId}{x:Operand}(ho:o.op=.unOp op t x){κ:V->St->Option ρ}{r:ρ}(h:aS cfg st o κ=some r):aU P cx φ S st a w o κ r:=by
 simp only[aS,ho]at h;unfold un at h;split at h
 . rename_i k n e;have hv:a.eval x=.int k n:=bO m e;exact aU.pure m h (by simp[execOp,ho,hv,Op.unary,Op.intArith]) rfl
 . rename_i b e;have hv:a.eval x=.bool b:=bO m e;exact aU.pure m h (by simp[execOp,ho,hv,Op.unary]) rfl
 . rename_i k n e;have hv:a.eval x=.int k n:=bO m e;exact aU.pure m h (by simp[execOp,ho,hv,Op.unary,Op.intBits]) rfl
 . cases h
theorem Bb {S:Nat->Prop}{w:World}{k:IntKind}:∀{l:List Int}{cs:List Value},b9 (Rep S w (.int k)) l cs->cs=l.map (Value.int k)
 |[],_,h=>h
 |n::l,_,⟨v1,v2,e,h1,h2⟩=>by have h1:v1=[Value.int k n]:=h1;rw[e,h1,Bb h2];rfl
theorem Ff {cfg:Cfg}(hT:cg P cfg.tt)(m:bA cx nt φ S st a w){o:Oper}{s d:TypeId}{x:Operand}(ho:o.op=.convert s d x){κ:V->St->Option ρ}{r:ρ}(h:aS cfg st o κ=some r):aU P cx φ S st a w o κ r:=by
 simp only[aS,ho]at h;split at h
 . rename_i i j c e1 e2 e3;unfold conv at h
   split at h
   . rename_i k' n;have hv:a.eval x=.int k' n:=bO m e3;split at h
     . rename_i k ek;have hd:=(hT d j e2).int ek;obtain⟨ds,hs,_⟩:=(hT s i e1).und;exact aU.pure m h (by simp[execOp,ho,hv,convert,run_underlying hs,run_underlying hd,Conv.intToInt]) rfl
     . cases h
   . split at h
     . rename_i e ej ei;split at h
       . rename_i ie e4;split at h
         . rename_i ek;split at h
           . rename_i l hl;have hc:aQ S w φ st.h c (a.eval x):=bO m e3;have hs:=(hT s i e1).sl ei;have hd:=(hT d j e2).str ej;have he:=(hT e ie e4).int ek;obtain⟨A,cap,cs,hv,hcap,hfl,hA⟩:=ta (S':=λ_=>True) m.m.b (λ_ _=>trivial) hc hl (λ_ _ _ _ _=>trivial);injection hv with hv _;have hcs:cs=l.map (Value.int .u8):=Bb hfl;refine aU.pure (v':=.string (lH l)) m h ?_ rfl
             have hrun:(convert s d (a.eval x)).run P w=.ok (.string (lH l)) w:=by
              rw[hv,run_convert_bytes_string w s d e _ _ _ hs he hd]
              cases A with
              |none=>rw[hA.1];simp[Conv.bytesToString,lH]
              |some ad=>
               have hll:=run_loadCells_list (P:=P) w ad cs hA.1;have:cs.length=l.length:=by rw[hcs,dJ]
               rw[this,hcs]at hll;rw[run_bytesToString w ad l.length cap l hll];rfl
             simp[execOp,ho,hrun]
           . cases h
         . cases h
       . cases h
     . cases h
 . cases h
theorem wq {t:TypeId}{i:TI}(ok:dm P t i){fs:List (Nat×Nat)}(ek:i.k=.struct fs){f off ft:Nat}(hf:fs[f]? =some (off,ft))(ad:Addr):(Instr.fieldAt t (.pointer (some ad)) f).run P w=.ok (.pointer (some (ad.add off))) w:=by
 obtain⟨fields,hu,h1,h2⟩:=ok.struct ek;subst h1;simp only[iF,vH]at hf;obtain⟨fld,hf,hp⟩:=hf;injection hp with hp1 hp2;subst hp1;have hf':fields[f]? =some fld:=by simpa using hf
 obtain⟨inf,hi,hs⟩:=h2 fld (aX hf);simp[Instr.fieldAt,run_underlying hu,hf',Instr.sureAddr,fieldPlace,sizeOf,typeInfo,hi,hs]
theorem zN {cfg:Cfg}(hT:cg P cfg.tt)(m:bA cx nt φ S st a w){o:Oper}{t:TypeId}{x:Operand}{f:Nat}(ho:o.op=.fieldAddr t x f){κ:V->St->Option ρ}{r:ρ}(h:aS cfg st o κ=some r):aU P cx φ S st a w o κ r:=by
 simp only[aS,ho]at h;split at h
 . rename_i i c e e0;have hc:=kc m e0;split at h
   . rename_i fs ek;split at h
     . rename_i off ft n j sz o' hf;obtain⟨hlive,g,hg,hv⟩:=hc;have hrun:=wq (w:=w) (hT t i e) ek hf ⟨g,j*sz+o',none⟩;rw[c8]at hrun;exact aU.pure (v':=.pointer (some ⟨g,j*sz+o'+off,none⟩)) m h (by simp[execOp,ho,hv,hrun]) ⟨hlive,g,hg,by rw[Nat.add_assoc]⟩
     . rename_i off ft u y o' hf;obtain⟨b,cs,hv,h1,h2,h3⟩:=hc;have hrun:=wq (w:=w) (hT t i e) ek hf (b.add o');rw[add_add]at hrun;exact aU.pure (v':=.pointer (some (b.add (o'+off)))) m h (by simp[execOp,ho,hv,hrun]) ⟨b,cs,rfl,h1,h2,h3⟩
     . cases h
   . cases h
 . cases h
theorem JX {cfg:Cfg}(hT:cg P cfg.tt)(m:bA cx nt φ S st a w){o:Oper}{t:TypeId}{x:Operand}{f:Nat}(ho:o.op=.field t x f){κ:V->St->Option ρ}{r:ρ}(h:aS cfg st o κ=some r):aU P cx φ S st a w o κ r:=by
 simp only[aS,ho]at h;split at h
 . rename_i i cs e e0;obtain⟨vs,hv,hc⟩:gx S w φ st.h (.agg cs) (a.eval x):=bO m e0;split at h
   . rename_i fs ek;split at h
     . rename_i off ft hf;split at h
       . rename_i ti et;obtain⟨fields,hu,h1,h2⟩:=(hT t i e).struct ek;subst h1;simp only[iF,vH]at hf;obtain⟨fld,hf,hp⟩:=hf;injection hp with hp1 hp2;subst hp1;subst hp2;have hf':fields[f]? =some fld:=by simpa using hf
         split at h
         . rename_i cs' e1;split at h
           . rename_i v e2
             have hw:∃y:W1,qm cfg.tt fld.type cs fld.offset=some y/\v=.v y:=by
              unfold qm;rw[show assoc cfg.tt fld.type=some ti from et];simp only[e1]
              cases hag:ti.agg with
              |true=>rw[hag]at e2;simp[asV]at e2;exact⟨.agg cs',rfl,e2.symm⟩
              |false=>
               rw[hag]at e2
               cases cs' with
               |nil=>simp[asV]at e2
               |cons c r=>cases r with
                |cons=>simp[asV]at e2
                |nil=>simp[asV]at e2;exact⟨.c c,rfl,e2.symm⟩
             obtain⟨y,hy,rfl⟩:=hw;obtain⟨v',hr,hrel⟩:=tb hT hc hy;exact aU.pure m h (by simp[execOp,ho,hv,Instr.field,run_underlying hu,hf',asAgg,hr]) hrel
           . cases h
         . cases h
       . cases h
     . cases h
   . cases h
 . cases h
theorem qQ {ρ:Type}:∀{m i:Nat}{j:Int}{κ:Nat->Option ρ}{r:ρ},nk m i j κ=some r->∃q:Nat,j=(q:Int)/\q<i+m/\κ q=some r
 |0,_,_,_,_,h=>by cases h
 |m+1,i,j,κ,r,h=>by
  unfold nk at h
  cases hd:decide (j=(i:Int))with
  |true=>rw[hd]at h;exact⟨i,eY hd,by omega,h⟩
  |false=>rw[hd]at h;obtain⟨q,h1,h2,h3⟩:=qQ (m:=m) (i:=i+1) h;exact⟨q,h1,by omega,h3⟩
theorem iT {cfg:Cfg}(hT:cg P cfg.tt){n e:Nat}{ie:TI}(e1:cfg.ty e=some ie)(w:World):(sizeOf e).run P w=.ok (bU cfg (.arr n e)) w:=by rw[bU,e1];exact(hT e ie e1).kd w
theorem JY {cfg:Cfg}(hT:cg P cfg.tt)(m:bA cx nt φ S st a w){o:Oper}{t:TypeId}{x y:Operand}(ho:o.op=.index t x y){κ:V->St->Option ρ}{r:ρ}(h:aS cfg st o κ=some r):aU P cx φ S st a w o κ r:=by
 simp only[aS,ho]at h;split at h
 . rename_i i s k j e e1 e2;have hx:a.eval x=.string s:=bO m e1;have hy:a.eval y=.int k j:=bO m e2;split at h
   . rename_i ek;have hu:=(hT t i e).str ek;obtain⟨b,hb,h⟩:=bR.1 h;exact aU.pure m h (by simp[execOp,ho,hx,hy,Instr.index,asIntOf,run_underlying hu,hb]) rfl
   . cases h
 . rename_i i cs k j e e1 e2;obtain⟨vs,hx,hc⟩:bB S w φ st.h (.v (.agg cs)) (a.eval x):=bO m e1;have hy:a.eval y=.int k j:=bO m e2;split at h
   . rename_i len el ek;have hu:=(hT t i e).arr ek;obtain⟨q,hq,hlt,h⟩:=qQ h;split at h
     case h_2=>cases h
     rename_i x' hp;obtain⟨v',hr,hrel⟩:=tb hT hc hp
     have hty:∃ie,cfg.ty el=some ie:=by
      unfold qm at hp;split at hp
      . rename_i ie e3;exact⟨ie,e3⟩
      . cases hp
     obtain⟨ie,hty⟩:=hty;have hs:(sizeOf el).run P w=.ok (bU cfg i.k) w:=by rw[ek];exact iT hT (n:=len) hty w
     have hj:j.toNat=q:=by omega
     have hb:0≤j/\j<(len:Int):=⟨by omega,by omega⟩;exact aU.pure m h (by simp[execOp,ho,hx,hy,Instr.index,asIntOf,run_underlying hu,hb,hs,hj,hr,Result.andThen]) hrel
   . cases h
 . cases h
theorem Fg (m:bA cx nt φ S st a w){cfg:Cfg}{o:Oper}{x:Operand}{i:Nat}(ho:o.op=.extract x i){κ:V->St->Option ρ}{r:ρ}(h:aS cfg st o κ=some r):aU P cx φ S st a w o κ r:=by
 simp only[aS,ho]at h;split at h
 . rename_i ws e;obtain⟨vs,hv,hc⟩:bB S w φ st.h (.tup ws) (a.eval x):=bO m e;split at h
   . rename_i y ey;obtain⟨b,hb,hr⟩:=hc.get ey;have hb':vs[i]? =some b:=by simpa using hb
     exact aU.pure m h (by simp[execOp,ho,hv,Instr.extract,hb']) hr
   . cases h
 . cases h
theorem eE {cfg:Cfg}(hT:cg P cfg.tt){t:TypeId}{i:TI}{e:Nat}(ok:dm P t i)(ek:i.k=.sl e){u:U}(hu:0<u.n)(h:Nat.beq (bU cfg i.k) u.n=true)(w:World):(sizeOf e).run P w=.ok u.n w:=by
 have h:=aR h;rw[ek,bU]at h;split at h
 . rename_i ie e1;rw[<-h];exact(hT e ie e1).kd w
 . omega
theorem zk {t e:TypeId}(h:P.underlying t=some (.slice e)):P.elem t=e:=by simp[Program.elem,h]
theorem lJ {p q:Prop}[Decidable p][Decidable q]{α:Type}{x:Option α}{r:α}(h:(bif decide p&&decide q then x else none)=some r):p/\q/\x=some r:=by
 cases hp:decide p<;>cases hq:decide q<;>rw[hp,hq]at h<;>first|exact⟨eY hp,eY hq,h⟩|cases h
theorem wN {p q s:Prop}[Decidable p][Decidable q][Decidable s]{α:Type}{x:Option α}{r:α}(h:(bif decide p&&decide q&&decide s then x else none)=some r):p/\q/\s/\x=some r:=by
 cases hp:decide p<;>cases hq:decide q<;>cases hs:decide s<;>rw[hp,hq,hs]at h<;>first|exact⟨eY hp,eY hq,eY hs,h⟩|cases h
theorem gb {t e:TypeId}(hu:P.underlying t=some (.slice e)){s:Nat}(hs:(sizeOf e).run P w=.ok s w)(ad:Addr)(len cap:Nat)(k:IntKind)(j:Int)(h0:0≤j)(h1:j<len):
    (Instr.indexAt t (.slice (some ad) len cap) (.int k j)).run P w=.ok (.pointer (some (ad.add (j.toNat*s)))) w:=by
 rw[run_indexAt_slice w t ad len cap k j (by rw[zk hu];exact hu),ah ⟨h0,h1⟩,zk hu,hs];rfl
theorem Bj {ok:Nat->Prop}{n e:Nat}{u:U}{l:List (El u)}(hb:ci S w φ st.h ok (φ n) (.row e u l))(h:0<l.length):∃g cap,φ n=.slice (some ⟨g,0,none⟩) l.length cap:=by
 obtain⟨_,flat,ho,_,_⟩:=hb;rcases ho.2 with⟨_,h0⟩|⟨g,cap,cur,h0,_⟩
 . omega
 . exact⟨g,cap,h0⟩
theorem O1 {ok:Nat->Prop}{n e:Nat}{u:U}{l:List (El u)}(hb:ci S w φ st.h ok (φ n) (.ro e u l))(h:0<l.length):∃g cap,pv (φ n)=.slice (some ⟨g,0,none⟩) l.length cap:=by
 obtain⟨_,flat,cap,_,_,hv⟩:=hb;rcases hv with⟨_,h0⟩|⟨g,h0,_⟩
 . subst h0;simp at h
 . exact⟨g,cap,h0⟩
theorem LC {ok:Nat->Prop}{n e:Nat}{o:O}{l:List (El o.u)}(hb:ci S w φ st.h ok (φ n) (.own e o l))(h:0<l.length):0<o.u.n/\∃g cap,pv (φ n)=.slice (some ⟨g,0,none⟩) l.length cap:=by
 obtain⟨s,F,hφ,⟨flat,F',hu,ho,_⟩,_⟩:=hb;rw[hφ.1];rcases ho.2 with⟨_,h0⟩|⟨g,cap,cur,h0,_⟩
 . omega
 . exact⟨hu,g,cap,h0⟩
theorem AZ {ok:Nat->Prop}{n e i:Nat}{o:O}{l:List (El o.u)}{cs:List C}(hb:ci S w φ st.h ok (φ n) (.opn e o l i cs)):0<o.u.n/\∃g cap,pv (φ n)=.slice (some ⟨g,0,none⟩) l.length cap:=by
 obtain⟨s,F,v1,v2,v3,F1,F3,hφ,hu,hi,ho,_⟩:=hb;rw[hφ,cF];rcases ho.2 with⟨_,h0⟩|⟨g,cap,cur,h0,_⟩
 . omega
 . exact⟨hu,g,cap,h0⟩
theorem hO {t e:TypeId}{n:Nat}(hu:P.underlying t=some (.array n e)){s:Nat}(hs:(sizeOf e).run P w=.ok s w)(ad:Addr)(k:IntKind)(j:Int)(h0:0≤j)(h1:j<n):
    (Instr.indexAt t (.pointer (some ad)) (.int k j)).run P w=.ok (.pointer (some (ad.add (j.toNat*s)))) w:=by
 have e1:P.arrayLen t=n:=by simp[Program.arrayLen,hu]
 have e2:P.elem t=e:=by simp[Program.elem,hu]
 rw[run_indexAt_array w t ad k j (by rw[e1,e2];exact hu),ah ⟨h0,by rw[e1];exact h1⟩,e2,hs];rfl
theorem tu {cfg:Cfg}(hT:cg P cfg.tt){n e:Nat}{u:U}(hu:0<u.n)(h:Nat.beq (bU cfg (.arr n e)) u.n=true)(w:World):(sizeOf e).run P w=.ok u.n w:=by
 have h:=aR h;rw[bU]at h;split at h
 . rename_i ie e1;rw[<-h];exact(hT e ie e1).kd w
 . omega
theorem qD {ti:TI}{c:C}{n len off:Nat}(h:jz st ti c=some (n,len,off)):∃el sz t cs,ti.k=.arr len el/\c=.ptr n 0 sz off/\st.h n=.box t cs:=by
 unfold jz at h;split at h
 . rename_i len' el n' i sz off' ek;split at h
   . rename_i t cs eh;injection h with h;injection h with h1 h2;injection h2 with h2 h3;subst h1;subst h2;subst h3;exact⟨el,sz,t,cs,ek,rfl,eh⟩
   . cases h
 . cases h
theorem zO {cfg:Cfg}(hT:cg P cfg.tt)(m:bA cx nt φ S st a w){o:Oper}{t:TypeId}{x y:Operand}(ho:o.op=.indexAddr t x y){κ:V->St->Option ρ}{r:ρ}(h:aS cfg st o κ=some r):aU P cx φ S st a w o κ r:=by
 simp only[aS,ho]at h;split at h
 . rename_i i c k j e e0 e2;have ok:=hT t i e;have hc:=(kc m e0).pO;split at h
   . rename_i n len off hbx;obtain⟨el,sz,bt,bcs,ek,rfl,eh⟩:=qD hbx;have hu:=ok.arr ek;rw[ek]at h;split at h
     case h_2=>cases h
     rename_i hpos;obtain⟨q,hq,hlt,h⟩:=qQ h;have hy:a.eval y=.int k j:=bO m e2;obtain⟨hlive,g,hg,hv⟩:=hc
     cases hty:cfg.ty el with
     |none=>simp[bU,hty]at hpos
     |some ie=>have hs:=iT hT (n:=len) hty w;have hrun:=hO hu hs ⟨g,0*sz+off,none⟩ k j (by omega) (by omega);rw[c8,show 0*sz+off+j.toNat*bU cfg (.arr len el)=0*0+(off+q*bU cfg (.arr len el)) by rw[hq];simp]at hrun;exact aU.pure (v':=.pointer (some ⟨g,0*0+(off+q*bU cfg (.arr len el)),none⟩)) m h (by simp only[execOp,ho,hv,hy,Sem.run_bind,hrun];rfl) ⟨hlive,g,hg,rfl⟩
   generalize c.pO=c at h hc;have hy:a.eval y=.int k j:=bO m e2;unfold indexAddr at h;split at h
   ·
    rename_i el u l ek;split at h
    . rename_i hb;rw[aH]at hb;have hun:0<u.n:=by have:=hb.2;rwa[dM]at this
      obtain⟨z,hz,h⟩:=bR.1 h;unfold aq at hz;split at hz
      . rename_i h0;have hu:=ok.sl ek
        have hjl:j.toNat<l.length:=by
         rcases dy j.toNat l.length with q|q
         . exact q
         . rw[iE q]at hz;cases hz
        obtain⟨A,cap,flat,hv,_,hl,hA⟩:=hc;injection hv with hv _
        cases A with
        |none=>obtain⟨hnil,_⟩:=hA;rw[hnil]at hjl;simp at hjl
        |some ad=>obtain⟨hm,hS⟩:=hA;obtain⟨v1,v2,v3,rfl,hl1,hrep,_⟩:=hl.at hz;have hs:=eE hT ok ek hun hb.1 w;refine aU.pure (v':=.pointer (some (ad.add (j.toNat*u.n)))) m h (by simp[execOp,ho,hv,hy,gb hu hs ad l.length cap k j h0 (by omega)]) ⟨ad.add (j.toNat*u.n),v2,by rw[add_zero],hrep,?_,λhne=>by rw[p6];exact hS (by simp[hne])⟩;rw[<-hl1];exact hm.part.2.part.1
      . cases hz
    . cases h
   . rename_i el n ek;obtain⟨hlive,hv,_⟩:=hc;have hn:=m.m.b n;have hu:=ok.sl ek;split at h
     . rename_i e' u l eh;rw[eh]at hn;split at h
       . rename_i hb;obtain⟨h0,h1,h⟩:=lJ h;obtain⟨g,cap,hφ⟩:=Bj hn (by omega);have hs:=eE hT ok ek hn.1 hb w;have hrun:=gb hu hs ⟨g,0,none⟩ l.length cap k j h0 h1;rw[c8,dc]at hrun;exact aU.pure (v':=.pointer (some ⟨g,j.toNat*u.n,none⟩)) m h (by simp[execOp,ho,hv,hφ,pv,hy,hrun]) ⟨hlive,g,by rw[hφ];rfl,rfl⟩
       . cases h
     . rename_i e' u l eh;rw[eh]at hn;split at h
       . rename_i hb;obtain⟨h0,h1,h⟩:=lJ h;obtain⟨g,cap,hφ⟩:=O1 hn (by omega);have hs:=eE hT ok ek hn.1 hb w;have hrun:=gb hu hs ⟨g,0,none⟩ l.length cap k j h0 h1;rw[c8,dc]at hrun;exact aU.pure (v':=.pointer (some ⟨g,j.toNat*u.n,none⟩)) m h (by simp[execOp,ho,hv,hφ,hy,hrun]) ⟨hlive,g,by rw[hφ];rfl,rfl⟩
       . cases h
     . rename_i e' q l eh;rw[eh]at hn;split at h
       . rename_i hb;obtain⟨h0,h1,h⟩:=lJ h;obtain⟨hun,g,cap,hφ⟩:=LC hn (by omega);have hs:=eE hT ok ek hun hb w;have hrun:=gb hu hs ⟨g,0,none⟩ l.length cap k j h0 h1;rw[c8,dc]at hrun;exact aU.pure (v':=.pointer (some ⟨g,j.toNat*q.u.n,none⟩)) m h (by simp[execOp,ho,hv,hφ,hy,hrun]) ⟨hlive,g,by rw[hφ];rfl,rfl⟩
       . cases h
     . rename_i e' q l qi qc eh;rw[eh]at hn;split at h
       . rename_i hb;obtain⟨h0,h1,h⟩:=lJ h;obtain⟨hun,g,cap,hφ⟩:=AZ hn;have hs:=eE hT ok ek hun hb w;have hrun:=gb hu hs ⟨g,0,none⟩ l.length cap k j h0 h1;rw[c8,dc]at hrun;exact aU.pure (v':=.pointer (some ⟨g,j.toNat*q.u.n,none⟩)) m h (by simp[execOp,ho,hv,hφ,hy,hrun]) ⟨hlive,g,by rw[hφ];rfl,rfl⟩
       . cases h
     . cases h
   . rename_i el n i' sz ek;obtain⟨hlive,A,L,cp,hφ,hi,hv⟩:=hc;have hn:=m.m.b n;have hu:=ok.sl ek;split at h
     . rename_i e' u l eh;rw[eh]at hn;split at h
       . rename_i hb;rw[aH]at hb;have:=aR hb.2;subst this;obtain⟨h0,h1,h⟩:=lJ h;obtain⟨g,cap,hφ'⟩:=Bj hn (by omega)
         have hcl:l.length≤cap:=by
          obtain⟨_,flat,ho,_,_⟩:=hn;rcases ho.2 with⟨e0,_⟩|⟨g',cap',cur,e0,_,_,hc1,_⟩
          . rw[e0]at hφ';cases hφ'
          . rw[e0]at hφ';cases hφ';exact hc1
         rw[hφ']at hφ;injection hφ with e1 e2 e3;subst e1;subst e2;subst e3;rw[ae (show ¬cap=i' by omega)]at hv;have hs:=eE hT ok ek hn.1 hb.1 w;have hrun:=gb hu hs ⟨g,i'*u.n,none⟩ (l.length-i') (cap-i') k j h0 h1;rw[c8]at hrun;refine aU.pure (v':=.pointer (some ⟨g,i'*u.n+j.toNat*u.n,none⟩)) m h ?_ ⟨hlive,g,by rw[hφ'];rfl,by rw[kM];rfl⟩;simp[execOp,ho,hv,hy,c8,hrun]
       . cases h
     . cases h
   . rename_i len el u x off ek;obtain⟨ad,cs,hv,h1,h2,h3⟩:=hc;have hu:=ok.arr ek;rw[ek]at h;split at h
     case h_2=>cases h
     rename_i hpos;obtain⟨h0,h1',h⟩:=lJ h
     cases hty:cfg.ty el with
     |none=>simp[bU,hty]at hpos
     |some ie=>have hs:=iT hT (n:=len) hty w;have hrun:=hO hu hs (ad.add off) k j h0 h1';rw[add_add]at hrun;exact aU.pure (v':=.pointer (some (ad.add (off+j.toNat*bU cfg (.arr len el))))) m h (by simp only[execOp,ho,hv,hy,Sem.run_bind,hrun];rfl) ⟨ad,cs,rfl,h1,h2,h3⟩
   . rename_i len el n ii sz off ek;obtain⟨hlive,g,hg,hv⟩:=hc;have hn:=m.m.b n;have hu:=ok.arr ek;rw[ek]at h
     have inner:∀(hpos:Nat.blt 0 (bU cfg (.arr len el))=true)(h:(bif decide (0≤j)&&decide (j<(len:Int))then κ (.v (.c (.ptr n ii sz (off+j.toNat*bU cfg (.arr len el))))) st else none)=some r),aU P cx φ S st a w o κ r:=by
      intro hpos h;obtain⟨h0,h1,h⟩:=lJ h
      cases hty:cfg.ty el with
      |none=>simp[bU,hty]at hpos
      |some ie=>have hs:=iT hT (n:=len) hty w;have hrun:=hO hu hs ⟨g,ii*sz+off,none⟩ k j h0 h1;rw[c8]at hrun;exact aU.pure (v':=.pointer (some ⟨g,ii*sz+off+j.toNat*bU cfg (.arr len el),none⟩)) m h (by simp only[execOp,ho,hv,hy,Sem.run_bind,hrun];rfl) ⟨hlive,g,hg,by congr 3;omega⟩
     split at h
     . rename_i e' u l eh;rw[eh]at hn;split at h
       . rename_i hb;split at h
         case h_2=>cases h
         rename_i ho0;obtain⟨h0,h1,h⟩:=lJ h;have hs:=tu hT hn.1 hb w;have hrun:=hO hu hs ⟨g,0*sz+off,none⟩ k j h0 h1;have:off=0:=aR ho0;subst this;rw[c8,show 0*sz+0+j.toNat*u.n=j.toNat*u.n by omega]at hrun;exact aU.pure (v':=.pointer (some ⟨g,j.toNat*u.n,none⟩)) m h (by simp only[execOp,ho,hv,hy,Sem.run_bind,hrun];rfl) ⟨hlive,g,hg,rfl⟩
       . split at h
         . rename_i hpos;exact inner hpos h
         . cases h
     . rename_i e' u l eh;rw[eh]at hn;split at h
       . rename_i hb;split at h
         case h_2=>cases h
         rename_i ho0;obtain⟨h0,h1,h⟩:=lJ h;have hs:=tu hT hn.1 hb w;have hrun:=hO hu hs ⟨g,0*sz+off,none⟩ k j h0 h1;have:off=0:=aR ho0;subst this;rw[c8,show 0*sz+0+j.toNat*u.n=j.toNat*u.n by omega]at hrun;exact aU.pure (v':=.pointer (some ⟨g,j.toNat*u.n,none⟩)) m h (by simp only[execOp,ho,hv,hy,Sem.run_bind,hrun];rfl) ⟨hlive,g,hg,rfl⟩
       . split at h
         . rename_i hpos;exact inner hpos h
         . cases h
     . split at h
       case h_2=>cases h
       rename_i hpos;obtain⟨h0,h1,h⟩:=lJ h
       cases hty:cfg.ty el with
       |none=>simp[bU,hty]at hpos
       |some ie=>have hs:=iT hT (n:=len) hty w;have hrun:=hO hu hs ⟨g,0*sz+off,none⟩ k j h0 h1;rw[c8]at hrun;exact aU.pure (v':=.pointer (some ⟨g,0*sz+off+j.toNat*bU cfg (.arr len el),none⟩)) m h (by simp only[execOp,ho,hv,hy,Sem.run_bind,hrun];rfl) ⟨hlive,g,hg,by congr 3;omega⟩
     . cases h
   . cases h
 . cases h
theorem zF {u:U}{l:List (El u)}{v:Value}(hr:Rep S w (.sl u) l [v]){lo hi:Int}(h0:0≤lo)(h1:lo≤hi)(h2:hi≤(l.length:Int)):
    ∃A cap,v=.slice A l.length cap/\hi≤(cap:Int)/\Rep S w (.sl u) (sub l lo hi) [.slice (if cap=lo.toNat then A else A.map (·.add (lo.toNat*u.n))) (hi.toNat-lo.toNat) (cap-lo.toNat)]:=by
 obtain⟨A,cap,flat,hv,hcl,hl,hA⟩:=hr;injection hv with hv _;refine⟨A,cap,hv,by omega,?_⟩;have hlen:(sub l lo hi).length=hi.toNat-lo.toNat:=by simp[sub];omega
 have hdec:l=(l.take lo.toNat)++(sub l lo hi++l.drop hi.toNat):=by
  have e1:(l.take hi.toNat).take lo.toNat=l.take lo.toNat:=by rw[List.take_take];congr 1;omega
  calc l=l.take hi.toNat++l.drop hi.toNat:=(gJ _ _).symm
   _=((l.take hi.toNat).take lo.toNat++(l.take hi.toNat).drop lo.toNat)++l.drop hi.toNat:=by rw[gJ lo.toNat]
   _=_:=by rw[e1,bL];rfl
 have hl':=hl;rw[hdec]at hl';obtain⟨f1,f23,rfl,r1,r23⟩:=hl'.split;obtain⟨f2,f3,rfl,r2,r3⟩:=r23.split;have hf1:f1.length=lo.toNat*u.n:=by rw[r1.length,da,jN (by omega)]
 refine⟨_,cap-lo.toNat,f2,by rw[hlen],by omega,r2,?_⟩
 cases A with
 |none=>
  obtain⟨rfl,rfl⟩:=hA;have:lo.toNat=0:=by simp at h2;omega
  simp[this,sub]
 |some ad=>
  obtain⟨hm,hs⟩:=hA;have hm2:=hm.part.2.part.1;rw[hf1]at hm2;by_cases hc:cap=lo.toNat
  . rw[ah hc];have:sub l lo hi=[]:=db (by rw[hlen];omega);have:f2=[]:=by rw[this]at r2;exact r2
    subst this;exact⟨λj v hv=>by simp at hv,λh=>absurd rfl h⟩
  . rw[ae hc];exact⟨hm2,λhne=>by rw[p6];exact hs (by simp[hne])⟩
def xp :Option Int->Option Value->Prop
 |none,v=>v=none
 |some z,v=>∃k,v=some (.int k z)
theorem fi {t e:TypeId}(hu:P.underlying t=some (.slice e)){s:Nat}(hs:(sizeOf e).run P w=.ok s w){A:Option Addr}{n cap:Nat}{lo hi:Option Int}{vlo vhi:Option Value}
    (hlo:xp lo vlo) (hhi:xp hi vhi)
    (h0:0≤lo.getD 0) (h1:lo.getD 0≤hi.getD n) (h2:hi.getD n≤(cap:Int)):
    (Instr.sliceAt t (.slice A n cap) vlo vhi none).run P w=.ok (.slice (if cap=(lo.getD 0).toNat then A else A.map (·.add ((lo.getD 0).toNat*s))) ((hi.getD n).toNat-(lo.getD 0).toNat) (cap-(lo.getD 0).toNat)) w:=by
 have hsl:(Instr.sliceAt t (.slice A n cap) vlo vhi none).run P w=(Instr.slice t (.slice A n cap) vlo vhi none).run P w:=by simp[Instr.sliceAt,run_underlying hu]
 rw[hsl]
 cases lo with
 |none=>
  obtain rfl:vlo=none:=hlo
  cases hi with
  |none=>
   obtain rfl:vhi=none:=hhi;simp[Instr.slice,run_underlying hu,Instr.sliceBounds,hs]
  |some z=>
   obtain⟨k,rfl⟩:=hhi;simp only[Option.getD_none,Option.getD_some]at h0 h1 h2⊢;simp[Instr.slice,run_underlying hu,Instr.sliceBounds,run_sliceBound,h1,h2,hs]
 |some y=>
  obtain⟨k',rfl⟩:=hlo
  cases hi with
  |none=>
   obtain rfl:vhi=none:=hhi;simp only[Option.getD_none,Option.getD_some]at h0 h1 h2⊢;simp[Instr.slice,run_underlying hu,Instr.sliceBounds,run_sliceBound,h0,h1,hs]
  |some z=>
   obtain⟨k,rfl⟩:=hhi;simp only[Option.getD_some]at h0 h1 h2⊢;have hz:0≤z:=by omega
   have ez:(z.toNat:Int)=z:=se hz;simp[Instr.slice,run_underlying hu,Instr.sliceBounds,run_sliceBound,h0,h1,h2,hz,ez,hs]
theorem yd (m:bA cx nt φ S st a w){x:Option Operand}{z:Option Int}(h:ja st x=some z):xp z (x.map a.eval):=by
 cases x with
 |none=>simp[ja]at h;subst h;rfl
 |some x=>
  simp only[ja]at h;split at h
  . rename_i k n e;injection h with h;subst h;have:a.eval x=.int k n:=bO m e;exact⟨k,by simp[this]⟩
  . cases h
theorem L9 {cfg:Cfg}(hT:cg P cfg.tt)(m:bA cx nt φ S st a w){o:Oper}{t:TypeId}{x:Operand}{lo hi:Option Operand}(ho:o.op=.slice t x lo hi none){i:TI}(ok:dm P t i){c:C}
    (hc:aQ S w φ st.h c (a.eval x)) {zl zh:Option Int} (hlo:xp zl (lo.map a.eval)) (hhi:xp zh (hi.map a.eval)) {κ:V->St->Option ρ} {r:ρ}
    (h:jH st i (bU cfg i.k) c zl zh (λc=>κ (.v (.c c)) st)=some r):aU P cx φ S st a w o κ r:=by
 have exec:∀v' w',(Instr.sliceAt t (a.eval x) (lo.map a.eval) (hi.map a.eval) none).run P w=.ok v' w'->(execOp a.eval o).run P w=.ok (.value v') w':=by intro v' w' hr;simp only[execOp,ho,Option.map_none,Sem.run_bind,hr,Result.andThen_ok];rfl
 unfold jH at h;split at h
 . rename_i el n z ek;obtain⟨hlive,hv,_⟩:=hc;have hn:=m.m.b n;split at h
   . rename_i e' u xs en;rw[en]at hn;split at h
     . rename_i hb;obtain⟨h0,h1,h⟩:=lJ h;have hs:=eE hT ok ek hn.1 hb w;have ez:(z.toNat:Int)=z:=se h0
       have hval:∃A cap,pv (φ n)=.slice A xs.length cap/\xs.length≤cap:=by
        rw[jD hn];obtain⟨_,flat,ho,_,_⟩:=hn;rcases ho.2 with⟨e0,e1⟩|⟨g',cap',cur,e0,_,_,hc1,_⟩
        . exact⟨none,0,by rw[e0,e1],by omega⟩
        . exact⟨_,_,e0,hc1⟩
       obtain⟨A,cap,hφ,hcap⟩:=hval;refine aU.pure m h (exec _ _ ?_) ⟨hlive,A,xs.length,cap,hφ,by omega,rfl⟩;rw[hv,hφ];have:=fi (P:=P) (w:=w) (ok.sl ek) hs (A:=A) (n:=xs.length) (cap:=cap) (lo:=some z) (hi:=none) hlo hhi (by simpa using h0) (by simpa using h1) (by simpa using hcap);rw[this];cases A<;>simp[Option.map]
     . cases h
   . cases h
 . cases h
theorem JZ {cfg:Cfg}(hT:cg P cfg.tt)(m:bA cx nt φ S st a w){o:Oper}{t:TypeId}{x:Operand}{lo hi:Option Operand}(ho:o.op=.slice t x lo hi none){κ:V->St->Option ρ}{r:ρ}(h:aS cfg st o κ=some r):aU P cx φ S st a w o κ r:=by
 simp only[aS,ho]at h;split at h
 . rename_i i c zl zh e e0 el eh;have ok:=hT t i e;have hc0:=kc m e0;have hlo:=yd m el;have hhi:=yd m eh
   cases htl:cfg.tails.any (Nat.beq (Oper.name o))with
   |true=>
    rw[htl]at h;simp only[ab]at h;exact L9 hT m ho ok hc0 hlo hhi h
   |false=>
   rw[htl]at h;simp only[ac]at h;have hc:=hc0.pO;generalize c.pO=c at h hc;have exec:∀v' w',(Instr.sliceAt t (a.eval x) (lo.map a.eval) (hi.map a.eval) none).run P w=.ok v' w'->(execOp a.eval o).run P w=.ok (.value v') w':=by intro v' w' hr;simp only[execOp,ho,Option.map_none,Sem.run_bind,hr,Result.andThen_ok];rfl
   unfold iH at h;split at h
   . rename_i s ek;obtain⟨h0,h1,h2,h⟩:=wN h;have hv:a.eval x=.string s:=hc;have hu:=ok.str ek;refine aU.pure (v':=.string (s.extract (zl.getD 0).toNat (zh.getD s.size).toNat)) m h (exec _ _ ?_) rfl;rw[hv];have hsl:∀vlo vhi,(Instr.sliceAt t (.string s) vlo vhi none).run P w=(Instr.slice t (.string s) vlo vhi none).run P w:=by intro vlo vhi;simp[Instr.sliceAt,run_underlying hu]
     rw[hsl]
     cases zl with
     |none=>
      have hlo:lo.map a.eval=none:=hlo;rw[hlo]
      cases zh with
      |none=>have hhi:hi.map a.eval=none:=hhi;rw[hhi];simp[Instr.slice,run_underlying hu,Instr.sliceBounds]
      |some z=>
       obtain⟨k,hk⟩:=hhi;rw[hk];simp only[Option.getD_none,Option.getD_some]at h0 h1 h2⊢;simp[Instr.slice,run_underlying hu,Instr.sliceBounds,run_sliceBound,h1,h2]
     |some y=>
      obtain⟨k',hk'⟩:=hlo;rw[hk']
      cases zh with
      |none=>
       have hhi:hi.map a.eval=none:=hhi;rw[hhi];simp only[Option.getD_none,Option.getD_some]at h0 h1 h2⊢;simp[Instr.slice,run_underlying hu,Instr.sliceBounds,run_sliceBound,h0,h1]
      |some z=>
       obtain⟨k,hk⟩:=hhi;rw[hk];simp only[Option.getD_some]at h0 h1 h2⊢;have hz:0≤z:=by omega
       have ez:(z.toNat:Int)=z:=se hz;simp[Instr.slice,run_underlying hu,Instr.sliceBounds,run_sliceBound,h0,h1,h2,hz,ez]
   . rename_i el' u xs ek;split at h
     . rename_i hb;rw[aH]at hb;have hun:0<u.n:=by have:=hb.2;rwa[dM]at this
       obtain⟨h0,h1,h2,h⟩:=wN h;obtain⟨A,cap,hv,hcap,hrep⟩:=zF hc h0 h1 h2;refine aU.pure m h (exec _ _ ?_) hrep;rw[hv];exact fi (ok.sl ek) (eE hT ok ek hun hb.1 w) hlo hhi h0 h1 hcap
     . cases h
   . rename_i el' n ek;obtain⟨hlive,hv,_⟩:=hc;have hn:=m.m.b n;split at h
     . rename_i e' u xs en;rw[en]at hn;rw[jD hn]at hv;split at h
       . rename_i hb;have hs:=eE hT ok ek hn.1 hb w
         cases htr:cfg.trunc.any (Nat.beq (Oper.name o))with
         |true=>
          rw[htr]at h;simp only[ab]at h;split at h
          . rename_i z;obtain⟨h0,h1,h⟩:=lJ h;obtain⟨hu,hf,hgl,h⟩:=fT h;obtain⟨_,flat,hown,hl,_⟩:=hn;have hsplit:b9 (Rep S w u) (xs.take z.toNat++xs.drop z.toNat) flat:=by rw[gJ];exact hl
            obtain⟨f1,f2,rfl,r1,r2⟩:=hsplit.split;have hlen:(xs.take z.toNat).length=z.toNat:=by rw[da];omega
            have hgrow:w.grownBy w (match some n with|some n=>blk (pv (φ n))|none=>none):=⟨rfl,rfl,rfl,aM _,λ_ _ _=>rfl⟩;rcases hown.2 with⟨hφ,hz⟩|⟨g,cap,cur,hφ,hb0,hh,hc1,hc2,hc3,hc4⟩
            . have hz':z=0:=by omega
              subst hz';have hf1:f1=[]:=by simpa using r1.length
              subst hf1
              obtain⟨hm,hlat⟩:=m.m.newRow (some n) (λk hk=>by cases hk;rw[en];rfl) (dst:=Oper.name o) hf hgl hgrow hu (v:=φ n) (e:=e') (l:=xs.take (0:Int).toNat) (flat:=[])
               (by rw[hφ];simpa using World.ownsRow_nil w 0 e' u.n) (by simpa using r1) (λg hg=>.inl ⟨n,rfl,hg⟩)
              refine⟨_,_,_,S,φ n,w,h,.inl (exec _ _ ?_),hm,rfl,hlat,by show(upd (upd st.h n .gone) (Oper.name o) _ (Oper.name o)).live=true;rw[aj];rfl,by rw[aj,hφ];rfl,by rw[hφ];exact⟨_,_,_,rfl⟩⟩;rw[hv,hφ];have:=fi (P:=P) (w:=w) (ok.sl ek) hs (A:=none) (n:=0) (cap:=0) (lo:=none) (hi:=some 0) hlo hhi (by simp) (by simp) (by simp);rw[this];simp
            . obtain⟨hm,hlat⟩:=m.m.newRow (some n) (λk hk=>by cases hk;rw[en];rfl) (dst:=Oper.name o) hf hgl hgrow hu (v:=.slice (some ⟨g,0,none⟩) z.toNat cap) (e:=e') (l:=xs.take z.toNat) (flat:=f1)
               ⟨by rw[r1.length],.inr ⟨g,cap,cur,by rw[hlen],hb0,hh,by rw[hlen];omega,hc2,hc3,by
                have h5:f1.length=(xs.take z.toNat).length*u.n:=r1.length;rw[<-h5];have h7:f1.length≤xs.length*u.n:=by rw[h5,hlen];exact uR _ (by omega)
                have h6:(cur.toList.take (xs.length*u.n)).take f1.length=f1:=by rw[hc4,lC]
                rw[List.take_take,jN h7]at h6
                exact h6⟩⟩ r1 (λg' hg=>.inl ⟨n,rfl,by rw[hφ];exact hg⟩)
              refine⟨_,_,_,S,.slice (some ⟨g,0,none⟩) z.toNat cap,w,h,.inl (exec _ _ ?_),hm,rfl,hlat,by show(upd (upd st.h n .gone) (Oper.name o) _ (Oper.name o)).live=true;rw[aj];rfl,by rw[aj];rfl,⟨_,_,_,rfl⟩⟩;rw[hv,hφ];have:=fi (P:=P) (w:=w) (ok.sl ek) hs (A:=some ⟨g,0,none⟩) (n:=xs.length) (cap:=cap) (lo:=none) (hi:=some z) hlo hhi (by simp) (by simpa using h0) (by simp;omega);rw[this];simp[add_zero]
          . cases h
         |false=>
          rw[htr]at h;simp only[ac]at h;obtain⟨h0,h1,h2,h⟩:=wN h;have m':=m.m.Hi n;have hrow:(st.h n).isRow=true:=by rw[en];rfl
          have hlat:bE S (λg=>S g\/(st.h n).isRow=true/\Bk (φ n) g) w w φ φ st.h (upd st.h n (st.h n).freeze):=⟨λg hg=>.inl hg,λ_ _=>rfl,λk hk=>⟨kf (by rw[qG,en];rfl) k hk,rfl⟩⟩;have hrep0:Rep (λg=>S g\/(st.h n).isRow=true/\Bk (φ n) g) w (.sl u) xs [φ n]:=by have:=HF (S':=λg=>S g\/(st.h n).isRow=true/\Bk (φ n) g) (λg hg=>.inl hg) hn (λg hg=>.inr ⟨hrow,hg⟩);rwa[jD hn]at this
          obtain⟨A,cap,hv2,hcap,hrep⟩:=zF hrep0 h0 h1 h2;rw[en]at m' hlat hrep;refine⟨_,_,φ,_,_,w,h,.inl (exec _ _ ?_),m',rfl,hlat,hrep⟩;rw[hv,hv2];exact fi (ok.sl ek) hs hlo hhi h0 h1 hcap
       . cases h
     . rename_i e' u xs en;rw[en]at hn;split at h
       . rename_i hb;have hs:=eE hT ok ek hn.1 hb w;obtain⟨h0,h1,h2,h⟩:=wN h;have hro:=E1 hn;obtain⟨A,cap,hv2,hcap,hrep⟩:=zF hro h0 h1 h2;refine aU.pure m h (exec _ _ ?_) hrep;rw[hv,hv2];exact fi (ok.sl ek) hs hlo hhi h0 h1 hcap
       . cases h
     . cases h
   . rename_i el' ek;split at h
     case h_2=>cases h
     rename_i hb;rw[dM]at hb;obtain⟨h0,h1,h2,h⟩:=wN h
     have hs:∃s,(sizeOf el').run P w=.ok s w:=by
      rw[ek,bU]at hb;split at hb
      . rename_i ie e3;exact⟨_,(hT el' ie e3).kd w⟩
      . omega
     obtain⟨s,hs⟩:=hs;have hv:a.eval x=.slice none 0 0:=hc;refine aU.pure (v':=.slice none 0 0) m h (exec _ _ ?_) rfl;rw[hv];have:=fi (P:=P) (w:=w) (ok.sl ek) hs (A:=none) (n:=0) (cap:=0) (lo:=zl) (hi:=zh) hlo hhi h0 (by simpa using h1) (by simpa using h2);rw[this];have e1:(zl.getD 0).toNat=0:=by omega
     have e2:(zh.getD ((0:Nat):Int)).toNat=0:=by simp only[Int.ofNat_zero]at*;omega
     rw[e1,e2];simp
   . cases h
 . cases h
end
end Go.Proofs.YtlkkaielmdlefaaGreatDoor.R1
namespace Go.Proofs.YtlkkaielmdlefaaGreatDoor.R1
open Go.MapKept Go.ChangeMaps
variable {P : Program} {ρ : Type}
theorem dm.map {t:TypeId}{i:TI}{k e:Nat}(ok:dm P t i)(ek:i.k=.map k e):P.underlying t=some (.map k e):=by obtain⟨d,hd,hk⟩:=ok.und;rw[ek]at hk;cases d<;>simp only[eT]at hk;rw[hd,hk.1,hk.2]
section
variable {cx : Cx} {nt : Nat} {φ : Nat → Value} {S : Nat → Prop} {st : St} {a : Act} {w : World}
theorem eN {a b:Bool}(h:fo a b=true):a=b:=by cases a<;>cases b<;>first|rfl|cases h
theorem FE {h:Nat->B}{x:W1}{v:Value}(hr:gx S w φ h x v):match x.isAgg with
    |true=>∃cs,v=.agg cs/\aW (aQ S w φ h) x.cells cs.toList
    |false=>aW (aQ S w φ h) x.cells [v]:=by
 cases x with
 |c c=>exact⟨hr,trivial⟩
 |agg xs=>exact hr
theorem il {h:Nat->B}{ag:Bool}{u:U}{x:V}{v:Value}{y:El u}(hr:bB S w φ h x v)(hd:dP ag u x=some y):fq S w ag u y v:=by
 cases x with
 |v x=>
  simp only[dP]at hd;split at hd
  case h_2=>cases hd
  rename_i hb;rw[aH]at hb;have hag:=eN hb.1;have hc:=FE (show gx S w φ h x v from hr)
  have pl:∀{cs:List C}{vs:List Value},cs.all C.plain=true->aW (aQ S w φ h) cs vs->aW (aQ S w φ (λ_=>.free)) cs vs:=by
   intro cs
   induction cs with
   |nil=>intro vs _ ha;cases vs<;>exact ha
   |cons c cs ih=>
    intro vs hp ha
    cases vs with
    |nil=>exact ha.elim
    |cons v vs=>simp only[List.all_cons,aH]at hp;exact⟨A8 hp.1 ha.1,ih hp.2 ha.2⟩
  rw[hag]at hc
  cases ag with
  |true=>
   obtain⟨cs,rfl,ha⟩:=hc;exact⟨cs,rfl,ef (ok:=λ_=>True) ue (λ_ h=>h) (pl hb.2 ha) hd λn _ hn=>(by cases hn)⟩
  |false=>exact ef (ok:=λ_=>True) ue (λ_ h=>h) (pl hb.2 hc) hd λn _ hn=>(by cases hn)
 |_=>simp[dP]at hd
structure BV (P:Program)(k:TypeId)(ka:Bool)(u:U)(eq:El u->El u->Bool)(d:TypeDesc):Prop where
 und:P.underlying k=some d
 isKey:∀{S:Nat->Prop}{w:World}{x:El u}{v:Value},fq S w ka u x v->IsKey d v
 same:∀{S:Nat->Prop}{w:World}{x y:El u}{v v':Value},fq S w ka u x v->fq S w ka u y v'->Instr.sameNow d v v'=some (eq x y)
 eq:∀{S:Nat->Prop}{w:World}{x y:El u}{v v':Value},fq S w ka u x v->fq S w ka u y v'->eq x y=true->v'=v
theorem pD {tt:TT}(hT:cg P tt){k:Nat}{ik:TI}(hk:assoc tt k=some ik){u:U}{eq:El u->El u->Bool}(h:iN tt k u=some eq):∃d,BV P k ik.agg u eq d:=by
 cases u with
 |int q=>
  simp only[iN,hk]at h;split at h
  . rename_i q' ek;split at h
    . rename_i e;subst e;injection h with h;subst h;have hag:ik.agg=false:=by simp[TI.agg,ek]
      rw[hag];refine⟨_,(hT k ik hk).int ek,?_,?_,?_⟩
      . intro S w x v hr;have hr:[v]=[Value.int q' x]:=hr;injection hr with hr;subst hr;rfl
      . intro S w x y v v' hr hr';have hr:[v]=[Value.int q' x]:=hr;have hr':[v']=[Value.int q' y]:=hr';injection hr with hr;injection hr' with hr';subst hr;subst hr';simp[Instr.sameNow]
      . intro S w x y v v' hr hr' he;have hr:[v]=[Value.int q' x]:=hr;have hr':[v']=[Value.int q' y]:=hr';injection hr with hr;injection hr' with hr';subst hr;subst hr';have:x=y:=by simpa using he
        rw[this]
    . cases h
  . cases h
 |_=>simp[iN]at h
theorem sG {k:TypeId}{ka va:Bool}{ku vu:U}{eq:El ku->El ku->Bool}{d:TypeDesc}(K:BV P k ka ku eq d){x:El ku}{v:Value}(hx:fq S w ka ku x v):∀{l:List (El ku×El vu)}{es:List MapEntry}(i:Nat),aW (tH S w ka va ku vu) l es->
    (b8 eq x l=none/\Instr.findNow d v es i=some none/\∀y,cd eq x y l=l++[(x,y)])\/
    ∃j e b,Instr.findNow d v es i=some (some (i+j,e.val))/\es[j]? =some e/\b8 eq x l=some b/\fq S w va vu b e.val/\e.key=v/\∀y,cd eq x y l=l.set j (x,y)
 |[],[],i,_=>.inl ⟨rfl,rfl,λ_=>rfl⟩
 |p::l,e::es,i,ha=>by
  have hs:=K.same hx ha.1.1
  cases hq:eq x p.1 with
  |true=>
   rw[hq]at hs;exact .inr ⟨0,e,p.2,by simp[Instr.findNow,hs],rfl,by simp[b8,hq],ha.1.2,K.eq hx ha.1.1 hq,λy=>by simp[cd,hq]⟩
  |false=>
   rw[hq]at hs;rcases sG K hx (i+1) ha.2 with⟨h1,h2,h3⟩|⟨j,e',b,h1,h2,h3,h4,h5,h6⟩
   . exact .inl ⟨by simp[b8,hq,h1],by simp[Instr.findNow,hs,h2],λy=>by simp[cd,hq,h3]⟩
   . exact .inr ⟨j+1,e',b,by simp[Instr.findNow,hs,h1];omega,by simpa using h2,by simp[b8,hq,h3],h4,h5,λy=>by simp[cd,hq,h6]⟩
 |[],_::_,_,h=>h.elim
 |_::_,[],_,h=>h.elim
theorem lE.push {ka va:Bool}{ku vu:U}{l:List (El ku×El vu)}{es:Array MapEntry}{clock:Nat}(h:lE S w ka va ku vu l es clock){x:El ku×El vu}{e:MapEntry}(he:tH S w ka va ku vu x e)(hb:e.born=clock):lE S w ka va ku vu (l++[x]) (es.push e) (clock+1):=by
 obtain⟨h1,h2,h3⟩:=h;refine⟨by rw[Array.toList_push];exact h1.append ⟨he,trivial⟩,by simp[h2],λi e' hi=> ?_⟩;rw[Array.getElem?_push]at hi;split at hi
 . rename_i q;injection hi with hi;subst hi;rw[hb,h2,q]
 . exact h3 i e' hi
theorem lE.modify {ka va:Bool}{ku vu:U}{l:List (El ku×El vu)}{es:Array MapEntry}{clock:Nat}(h:lE S w ka va ku vu l es clock){x:El ku×El vu}{j:Nat}{e:MapEntry}(hj:es[j]? =some e){f:MapEntry->MapEntry}(he:tH S w ka va ku vu x (f e))(hb:(f e).born=e.born):lE S w ka va ku vu (l.set j x) (es.modify j f) clock:=by
 obtain⟨h1,h2,h3⟩:=h;have hjl:j<es.size:=(dU.1 hj).1
 have el:(es.modify j f).toList=es.toList.set j (f e):=by
  apply r9;intro q;rw[uQ,vJ,List.getElem?_set];by_cases hq:j=q
  . subst hq;simp[hjl,(dU.1 hj).2]
  . simp[hq]
 refine⟨by rw[el];exact h1.set j he,by simp[h2],λi e' hi=> ?_⟩;rw[vJ]at hi;split at hi
 . rename_i q;subst q;rw[hj]at hi;simp only[Option.map_some]at hi;injection hi with hi;subst hi;rw[hb];exact h3 _ e hj
 . exact h3 i e' hi
theorem yk {ku vu:U}{eq:El ku->El ku->Bool}{x:El ku}{z:El vu}:∀{l:List (El ku×El vu)},lg eq x z l=cd eq x ((b8 eq x l).getD z) l
 |[]=>rfl
 |p::l=>by
  cases h:eq x p.1 with
  |true=>simp[lg,cd,b8,h]
  |false=>simp[lg,cd,b8,h,yk (l:=l)]
theorem wZ {k:TypeId}{ka va:Bool}{ku vu:U}{eq:El ku->El ku->Bool}{d:TypeDesc}(K:BV P k ka ku eq d){x:El ku}{v:Value}(hx:fq S w ka ku x v):∀{l:List (El ku×El vu)}{es:List MapEntry}(i:Nat),aW (tH S w ka va ku vu) l es->
    ∀r,Instr.findNow d v es i=some r->match r with
     |none=>mapIdx eq x l=es.length
     |some q=>q.1=i+mapIdx eq x l
 |[],[],i,_,r,h=>by simp[Instr.findNow]at h;subst h;rfl
 |p::l,e::es,i,ha,r,h=>by
  have hs:=K.same hx ha.1.1
  cases hq:eq x p.1 with
  |true=>
   rw[hq]at hs;simp[Instr.findNow,hs]at h;subst h;simp[mapIdx,hq]
  |false=>
   rw[hq]at hs;simp only[Instr.findNow,hs]at h;have:=wZ K hx (i+1) ha.2 r h
   cases r with
   |none=>simp only[mapIdx,hq,ac]at this⊢;simp[this]
   |some q=>simp only[mapIdx,hq,ac]at this⊢;omega
 |[],_::_,_,h,_,_=>h.elim
 |_::_,[],_,h,_,_=>h.elim
theorem CC {i:TI}{u:U}{x:El u}{v:Value}(h:Nat->B)(hr:fq S w i.agg u x v){y:W1}(hv:asV i.agg (cB u x)=some (.v y)):gx S w φ h y v:=by
 cases hag:i.agg with
 |true=>
  rw[hag]at hr hv;obtain⟨cs,rfl,hr⟩:=hr;simp[asV]at hv;subst hv;exact⟨cs,rfl,cP hr⟩
 |false=>
  rw[hag]at hr hv;have ha:=cP (φ:=φ) (h:=h) (show Rep S w u x [v]from hr)
  cases hc:cB u x with
  |nil=>rw[hc]at hv;simp[asV]at hv
  |cons c r=>cases r with
   |cons=>rw[hc]at hv;simp[asV]at hv
   |nil=>rw[hc]at hv ha;simp[asV]at hv;subst hv;exact ha.1
theorem ur (cfg:Cfg)(d t:Nat)(ik ie:TI):cfg.uq d t ik ie=.mp t ik.agg ie.agg ik.u ie.u []\/∃e u,cfg.uq d t ik ie=.mr t ik.agg ik.u e u []:=by
 unfold Cfg.uq;split
 . split
   . exact .inr ⟨_,_,rfl⟩
   . exact .inl rfl
 . exact .inl rfl
theorem Fh {cfg:Cfg}(hT:cg P cfg.tt)(m:bA cx nt φ S st a w){o:Oper}{t:TypeId}(ho:o.op=.makeMap t none){κ:V->St->Option ρ}{r:ρ}(h:aS cfg st o κ=some r):aU P cx φ S st a w o κ r:=by
 simp only[aS,ho]at h;split at h
 case h_2=>cases h
 rename_i i e;split at h
 case h_2=>cases h
 rename_i k el ek;split at h
 case h_2=>cases h
 rename_i ik ie e1 e2;split at h
 case h_2=>cases h
 rename_i hp;obtain⟨hf,hgl,h⟩:=eQ h;generalize hB:cfg.uq (Oper.name o) t ik ie=bb at h;have hBl:bb.live=true:=by rcases ur cfg (Oper.name o) t ik ie with q|⟨_,_,q⟩<;>(rw[<-hB,q];rfl)
 have hBr:∀(w':World)(φ':Nat->Value)(h':Nat->B),w'.heap[w.heap.size]? =some (.map #[] 0)->ci S w' φ' h' cx.ok (.map (some w.heap.size)) bb:=by
  intro w' φ' h' hw';have hlt:w.heap.size<w'.heap.size:=(dU.1 hw').1;have hok:cx.ok w.heap.size:=.inl m.m.keep.size;rcases ur cfg (Oper.name o) t ik ie with q|⟨_,_,q⟩
  . rw[<-hB,q];exact⟨hp,trivial,.inr ⟨w.heap.size, #[],0,rfl,hw',⟨trivial,rfl,λi e h=>by simp at h⟩,hok⟩⟩
  . rw[<-hB,q];refine⟨hp,w.heap.size, #[],0,[],rfl,hw',rfl,⟨rfl,λi e h=>by simp at h⟩,by simp,λg hg=>iR.2 (bG.1 hg),λg hg=> ?_⟩;rw[iR.1 hg];exact⟨hok,hlt⟩
 have hfree:(none:Option Nat)=some (Oper.name o)/\pv (Value.map (some w.heap.size))=pv (φ (Oper.name o))\/(st.h (Oper.name o)).live=false/\bZ (Oper.name o)=false:=.inr ⟨by rw[hf];rfl,hgl⟩;have hkeep:∀g,g<w.heap.size->(∀n,(none:Option Nat)=some n->¬Bk (φ n) g)->(w.alloc (.map #[] 0)).heap[g]? =w.heap[g]? :=λg hg _=>heap_alloc_old w _ g hg
 have hlat:=bE.ec m.m none (by simp) hkeep (Oper.name o) bb (.map (some w.heap.size)) hBl hfree
 have hm:=m.m.change (w':=w.alloc (.map #[] 0)) rfl rfl rfl (by simp) none (by simp) hkeep (Oper.name o) bb (.map (some w.heap.size)) hBl hfree (λg hg=>.inr (fM (iR.1 hg).symm))
  (λh' hh=>hBr _ _ _ (heap_alloc_new w _))
 refine⟨_,_,_,S,.map (some w.heap.size),_,h,.inl ?_,hm,rfl,hlat,?_⟩
 . simp[execOp,ho,Instr.makeMap,newObj,Sem.run,Result.andThen]
 . exact⟨by show(upd st.h _ _ _).live=true;rw[aj];exact hBl,some w.heap.size,rfl,rfl,by rw[aj];rfl⟩
theorem we {cfg:Cfg}(hT:cg P cfg.tt)(m:bA cx nt φ S st a w){o:Oper}{t:TypeId}{x y:Operand}{cm:Bool}(ho:o.op=.lookup t x y cm){i ik ie:TI}{k el:Nat}(e:cfg.ty t=some i)(ek:i.k=.map k el)(e1:cfg.ty k=some ik)(e2:cfg.ty el=some ie)(hz:ie.zero.length=ie.size)
    {κ:V->St->Option ρ} {r:ρ} (h:fW st ik ie (datum (λ_=>.free) ie.u ie.zero) (iN cfg.tt k ik.u) t (ay st x) (ay st y) cm (λv=>κ v st)=some r):aU P cx φ S st a w o κ r:=by
 have hu:=(hT t i e).map ek;unfold fW at h;split at h
 case h_2=>cases h
 rename_i z eq kx ez eeq ekx;obtain⟨d,K⟩:=pD hT e1 eeq;have hkx:=il (cD m y) ekx;have oke:=hT el ie e2;obtain⟨inf,zv,i1,_,_,i4,i5,i6⟩:=oke.info;have hz1:(zeroValue el).run P w=.ok zv w:=by simp[zeroValue,typeInfo,i1,i4]
 have hz2:aW (aQ S w φ (λ_=>.free)) ie.zero zv.cells.toList:=cL (i6 hz)
 have hzr:fq S w ie.agg ie.u z zv:=by
  have hr:=ef (ok:=λ_=>True) ue (λ_ h=>h) hz2 ez λn _ hn=>(by cases hn)
  have hag:=oke.zagg inf zv i1 i4;rw[<-hag]
  cases zv with
  |agg cs=>exact⟨cs,rfl,hr⟩
  |_=>exact hr
 have hck:∀em,(Instr.checkKey em 10000 k (a.eval y)).run P w=.ok () w:=λem=>run_checkKey K.und (K.isKey hkx) em 9999
 have fin:∀(g:Option (El ie.u))(vv:Value),fq S w ie.agg ie.u (g.getD z) vv->(Instr.lookup t (a.eval x) (a.eval y) cm).run P w=.ok (if cm then .tuple #[vv,.bool g.isSome]else vv) w->
     (match asV ie.agg (cB ie.u (g.getD z))with
     |some (.v w)=>κ (Hn cm w g.isSome) st
     |_=>none)=some r->aU P cx φ S st a w o κ r:=by
  intro g vv hvv hrun h;split at h
  case h_2=>cases h
  rename_i w1 ew;have hw:=CC (φ:=φ) st.h hvv ew
  cases cm with
  |true=>exact aU.pure (v':=.tuple #[vv,.bool g.isSome]) m h (by simp[execOp,ho,hrun]) ⟨#[vv,.bool g.isSome],rfl,hw,rfl,trivial⟩
  |false=>exact aU.pure (v':=vv) m h (by simp[execOp,ho,hrun]) hw
 have hnil:a.eval x=.map none->(Instr.lookup t (a.eval x) (a.eval y) cm).run P w=.ok (if cm then .tuple #[zv,.bool (none:Option (El ie.u)).isSome]else zv) w:=by intro hx;have hf:(Instr.findKey k (a.eval y) []).run P w=.ok none w:=run_findKey K.und rfl;simp[Instr.lookup,run_underlying hu,hx,hck,hf,hz1,Result.andThen]
 split at h
 . rename_i hx;have hx:a.eval x=.map none:=bO m hx;exact fin none zv hzr (hnil hx) h
 . rename_i b n hx;obtain⟨hl,q,hq,hb,hv⟩:aQ S w φ st.h (.mapr b n) (a.eval x):=bO m hx;have hbn:=m.m.b n;split at h
   case h_2=>cases h
   rename_i t' ka va ku vu l en;rw[en]at hbn;split at h
   case h_2=>cases h
   rename_i hb3;simp only[aH]at hb3;obtain⟨⟨ht',hka⟩,hva⟩:=hb3;have hka:=eN hka;have hva:=eN hva;subst hka;subst hva;split at h
   case isFalse=>cases h
   rename_i huu;obtain⟨hku,hvu⟩:=huu;subst hku;subst hvu;obtain⟨_,_,⟨h0,hl0⟩|⟨r0,es,clock,h0,hg,hes,_⟩⟩:=hbn
   . subst hl0
     have hx:a.eval x=.map none:=by
      rw[h0]at hv
      cases q with
      |none=>exact hq
      |some q=>cases hv
     exact fin none zv hzr (hnil hx) h
   . have hx:a.eval x=.map (some r0):=by
      rw[h0]at hv
      cases q with
      |none=>cases hv
      |some q=>rw[hq];exact hv.symm
     rcases sG K hkx 0 hes.1 with⟨g1,g2,_⟩|⟨j,e',b',g1,g2,g3,g4,g5,_⟩
     . have hf:(Instr.findKey k (a.eval y) es.toList).run P w=.ok none w:=run_findKey K.und g2;rw[show b8 eq kx _=none from g1]at h;refine fin none zv hzr ?_ h;simp[Instr.lookup,run_underlying hu,hx,MapKept.run_getObj_map hg,hck,hf,hz1,Result.andThen]
     . have hf:(Instr.findKey k (a.eval y) es.toList).run P w=.ok (some (0+j,e'.val)) w:=run_findKey K.und g1;rw[show b8 eq kx _=some b' from g3]at h;refine fin (some b') e'.val g4 ?_ h;simp[Instr.lookup,run_underlying hu,hx,MapKept.run_getObj_map hg,hck,hf,Result.andThen]
 . cases h
theorem Ga {cfg:Cfg}(hT:cg P cfg.tt)(m:bA cx nt φ S st a w){o:Oper}{t:TypeId}{x y z:Operand}(ho:o.op=.mapUpdate t x y z){i ik ie:TI}{k el:Nat}(e:cfg.ty t=some i)(ek:i.k=.map k el)(e1:cfg.ty k=some ik)(e2:cfg.ty el=some ie)
    {κ:V->St->Option ρ} {r:ρ} (h:fH st ik ie (iN cfg.tt k ik.u) t (ay st x) (ay st y) (ay st z) (λst=>κ .und st)=some r):aU P cx φ S st a w o κ r:=by
 have hu:=(hT t i e).map ek;unfold fH at h;split at h
 case h_2=>cases h
 rename_i eq kx vx eeq ekx evx;obtain⟨d,K⟩:=pD hT e1 eeq;have hkx:=il (cD m y) ekx;have hvx:=il (cD m z) evx;have hck:∀em,(Instr.checkKey em 10000 k (a.eval y)).run P w=.ok () w:=λem=>run_checkKey K.und (K.isKey hkx) em 9999
 split at h
 case h_2=>cases h
 rename_i b n hx;obtain⟨hl,q,hq,hb,hv⟩:aQ S w φ st.h (.mapr b n) (a.eval x):=bO m hx;have hbn:=m.m.b n
 cases b with
 |true=>cases h
 |false=>
  simp only[ac]at h;split at h
  case h_2=>cases h
  rename_i t' ka va ku vu l en;rw[en]at hbn;split at h
  case h_2=>cases h
  rename_i hb3;simp only[aH]at hb3;obtain⟨⟨ht',hka⟩,hva⟩:=hb3;have hka:=eN hka;have hva:=eN hva;subst hka;subst hva;split at h
  case isFalse=>cases h
  rename_i huu;obtain⟨hku,hvu⟩:=huu;subst hku;subst hvu;obtain⟨p1,p2,⟨h0,hl0⟩|⟨r0,es,clock,h0,hg,hes,hok⟩⟩:=hbn
  . rw[h0]at hv
    cases q with
    |none=>cases hb
    |some q=>cases hv
  . have hx:a.eval x=.map (some r0):=by
     rw[h0]at hv
     cases q with
     |none=>cases hv
     |some q=>rw[hq];exact hv.symm
    have key:∃es' clock',(Instr.mapUpdate t (a.eval x) (a.eval y) (a.eval z)).run P w=.ok () (setBlock w r0 (.map es' clock'))/\lE S w ik.agg ie.agg ik.u ie.u (cd eq kx vx l) es' clock':=by
     rcases sG K hkx 0 hes.1 with⟨_,g2,g3⟩|⟨j,e',b',g1,g2,_,g4,g5,g6⟩
     . have hf:(Instr.findKey k (a.eval y) es.toList).run P w=.ok none w:=run_findKey K.und g2;refine⟨es.push ⟨a.eval y,a.eval z,clock⟩,clock+1,?_,?_⟩
       . simp[Instr.mapUpdate,run_underlying hu,hx,MapKept.run_getObj_map hg,hck,hf,MapKept.run_setObj_map _ hg,Result.andThen,setBlock]
       . rw[g3 vx];exact hes.push ⟨hkx,hvx⟩ rfl
     . have hf:(Instr.findKey k (a.eval y) es.toList).run P w=.ok (some (0+j,e'.val)) w:=run_findKey K.und g1;have hj:es[j]? =some e':=by simpa using g2
       have hst:(Instr.keyThatStays (a.eval y) (a.eval y)).run P w=.ok (a.eval y) w:=run_keyThatStays (K.isKey hkx);refine⟨es.modify j (λe=>{e with key:=a.eval y,val:=a.eval z}),clock,?_,?_⟩
       . simp[Instr.mapUpdate,run_underlying hu,hx,MapKept.run_getObj_map hg,hck,hf,hj,g5,hst,MapKept.run_setObj_map _ hg,Result.andThen,setBlock]
       . rw[g6 vx];exact hes.modify hj ⟨hkx,hvx⟩ rfl
    obtain⟨es',clock',hrun,hes'⟩:=key;have hmut:(st.h n).mut=true:=by rw[en];rfl
    have hold:∀k,some n=some k->(st.h k).mut=true:=λk hk=>by injection hk with hk;subst hk;exact hmut
    have hsz:w.heap.size=(setBlock w r0 (.map es' clock')).heap.size:=by simp[setBlock]
    have hkeep:∀g,g<w.heap.size->(∀k,some n=some k->¬Bk (φ k) g)->(setBlock w r0 (.map es' clock')).heap[g]? =w.heap[g]? :=λg _ hne=>heap_setBlock_other hg _ λe=>hne n rfl (by rw[h0,e];exact iR.2 rfl)
    have hfree:(some n:Option Nat)=some n/\pv (φ n)=pv (φ n)\/(st.h n).live=false/\bZ n=false:=.inl ⟨rfl,rfl⟩;have hlat:=bE.ec m.m (some n) hold hkeep n (.mp t' ik.agg ie.agg ik.u ie.u (cd eq kx vx l)) (φ n) rfl hfree
    have hm:=m.m.change (w':=setBlock w r0 (.map es' clock')) rfl rfl rfl (fM hsz) (some n) hold hkeep n (.mp t' ik.agg ie.agg ik.u ie.u (cd eq kx vx l)) (φ n) rfl hfree (λg hg=>.inl ⟨n,rfl,hg⟩)
     (λh' hh=>⟨p1,p2,.inr ⟨r0,es',clock',h0,heap_setBlock_same hg _,hes'.mono λ_ _ hh=>⟨hh.1.mono (λ_ h=>h) hlat.k,hh.2.mono (λ_ h=>h) hlat.k⟩,hok⟩⟩)
    simp only[giveUp,iI]at hm hlat;exact⟨_,_,_,S,undef,_,h,.inr ⟨by simp[execOp,ho,hrun],rfl⟩,hm,rfl,hlat,rfl⟩
theorem BS {cfg:Cfg}(hT:cg P cfg.tt)(m:bA cx nt φ S st a w){o:Oper}{t:TypeId}{x y:Operand}(ho:o.op=.mapEntry t x y){κ:V->St->Option ρ}{r:ρ}(h:aS cfg st o κ=some r):aU P cx φ S st a w o κ r:=by
 simp only[aS,ho]at h;split at h
 case h_2=>cases h
 rename_i i e;split at h
 case h_2=>cases h
 rename_i k el ek;split at h
 case h_2=>cases h
 rename_i ik ie e1 e2;split at h
 case h_2=>cases h
 rename_i hz;have hz:=aR hz;have hu:=(hT t i e).map ek;unfold iU at h;split at h
 case h_2=>cases h
 rename_i z eq kx ez eeq ekx;obtain⟨d,K⟩:=pD hT e1 eeq;have hkx:=il (cD m y) ekx;have oke:=hT el ie e2;obtain⟨inf,zv,i1,_,_,i4,i5,i6⟩:=oke.info;have hz1:(zeroValue el).run P w=.ok zv w:=by simp[zeroValue,typeInfo,i1,i4]
 have hz2:aW (aQ S w φ (λ_=>.free)) ie.zero zv.cells.toList:=cL (i6 hz)
 have hzr:fq S w ie.agg ie.u z zv:=by
  have hr:=ef (ok:=λ_=>True) ue (λ_ h=>h) hz2 ez λn _ hn=>(by cases hn)
  have hag:=oke.zagg inf zv i1 i4;rw[<-hag]
  cases zv with
  |agg cs=>exact⟨cs,rfl,hr⟩
  |_=>exact hr
 have hck:∀em,(Instr.checkKey em 10000 k (a.eval y)).run P w=.ok () w:=λem=>run_checkKey K.und (K.isKey hkx) em 9999
 split at h
 case h_2=>cases h
 rename_i b n hx;obtain⟨hl,q,hq,hb,hv⟩:aQ S w φ st.h (.mapr b n) (a.eval x):=bO m hx;have hbn:=m.m.b n
 cases b with
 |true=>cases h
 |false=>
  simp only[ac]at h;split at h
  case h_2=>cases h
  rename_i t' ka va ku vu l en;rw[en]at hbn;split at h
  case h_2=>cases h
  rename_i hb3;simp only[aH]at hb3;obtain⟨⟨ht',hka⟩,hva⟩:=hb3;have hka:=eN hka;have hva:=eN hva;subst hka;subst hva;split at h
  case isFalse=>cases h
  rename_i huu;obtain⟨hku,hvu⟩:=huu;subst hku;subst hvu;split at h
  case h_2=>cases h
  rename_i w1 ew;obtain⟨p1,p2,⟨h0,hl0⟩|⟨r0,es,clock,h0,hg,hes,hok⟩⟩:=hbn
  . rw[h0]at hv
    cases q with
    |none=>cases hb
    |some q=>cases hv
  . have hx:a.eval x=.map (some r0):=by
     rw[h0]at hv
     cases q with
     |none=>cases hv
     |some q=>rw[hq];exact hv.symm
    have key:∃es' clock' vv,(Instr.mapEntry t (a.eval x) (a.eval y)).run P w=.ok (.tuple #[vv,.int .i64 (mapIdx eq kx l:Int)]) (setBlock w r0 (.map es' clock'))/\fq S w ie.agg ie.u ((b8 eq kx l).getD z) vv/\lE S w ik.agg ie.agg ik.u ie.u (lg eq kx z l) es' clock':=by
     rw[yk];rcases sG K hkx 0 hes.1 with⟨g1,g2,g3⟩|⟨j,e',b',g1,g2,g3,g4,g5,g6⟩
     . have hf:(Instr.findKey k (a.eval y) es.toList).run P w=.ok none w:=run_findKey K.und g2;have hi:=wZ K hkx 0 hes.1 _ g2;have hcl:(clock:Int)=(mapIdx eq kx l:Int):=by rw[hes.2.1,show mapIdx eq kx l=es.toList.length from hi];simp
       refine⟨es.push ⟨a.eval y,zv,clock⟩,clock+1,zv,?_,?_,?_⟩
       . simp[Instr.mapEntry,run_underlying hu,hx,MapKept.run_getObj_map hg,hck,hf,hz1,MapKept.run_setObj_map _ hg,Result.andThen,setBlock,goInt,hcl]
       . rw[g1];exact hzr
       . rw[g3,g1];exact hes.push ⟨hkx,hzr⟩ rfl
     . have hf:(Instr.findKey k (a.eval y) es.toList).run P w=.ok (some (0+j,e'.val)) w:=run_findKey K.und g1;have hi:0+j=0+mapIdx eq kx l:=wZ K hkx 0 hes.1 _ g1;have hj:es[j]? =some e':=by simpa using g2
       have hst:(Instr.keyThatStays (a.eval y) (a.eval y)).run P w=.ok (a.eval y) w:=run_keyThatStays (K.isKey hkx);have hbn:(e'.born:Int)=(mapIdx eq kx l:Int):=by rw[hes.2.2 j e' hj];omega
       refine⟨es.modify j (λe=>{e with key:=a.eval y}),clock,e'.val,?_,?_,?_⟩
       . simp[Instr.mapEntry,run_underlying hu,hx,MapKept.run_getObj_map hg,hck,hf,hj,g5,hst,MapKept.run_setObj_map _ hg,Result.andThen,setBlock,goInt,hbn]
       . rw[g3];exact g4
       . rw[g6,g3];exact hes.modify hj ⟨hkx,g4⟩ rfl
    obtain⟨es',clock',vv,hrun,hvv,hes'⟩:=key;have hmut:(st.h n).mut=true:=by rw[en];rfl
    have hold:∀k,some n=some k->(st.h k).mut=true:=λk hk=>by injection hk with hk;subst hk;exact hmut
    have hsz:w.heap.size=(setBlock w r0 (.map es' clock')).heap.size:=by simp[setBlock]
    have hkeep:∀g,g<w.heap.size->(∀k,some n=some k->¬Bk (φ k) g)->(setBlock w r0 (.map es' clock')).heap[g]? =w.heap[g]? :=λg _ hne=>heap_setBlock_other hg _ λe=>hne n rfl (by rw[h0,e];exact iR.2 rfl)
    have hfree:(some n:Option Nat)=some n/\pv (φ n)=pv (φ n)\/(st.h n).live=false/\bZ n=false:=.inl ⟨rfl,rfl⟩;have hlat:=bE.ec m.m (some n) hold hkeep n (.mp t' ik.agg ie.agg ik.u ie.u (lg eq kx z l)) (φ n) rfl hfree
    have hm:=m.m.change (w':=setBlock w r0 (.map es' clock')) rfl rfl rfl (fM hsz) (some n) hold hkeep n (.mp t' ik.agg ie.agg ik.u ie.u (lg eq kx z l)) (φ n) rfl hfree (λg hg=>.inl ⟨n,rfl,hg⟩)
     (λh' hh=>⟨p1,p2,.inr ⟨r0,es',clock',h0,heap_setBlock_same hg _,hes'.mono λ_ _ hh=>⟨hh.1.mono (λ_ h=>h) hlat.k,hh.2.mono (λ_ h=>h) hlat.k⟩,hok⟩⟩)
    have hw:=CC (φ:=upd φ n (φ n)) (upd (giveUp st.h (some n)) n (.mp t' ik.agg ie.agg ik.u ie.u (lg eq kx z l))) (hvv.mono (λ_ h=>h) hlat.k) ew;simp only[giveUp,iI]at hm hlat hw;exact⟨_,_,_,S,.tuple #[vv,.int .i64 (mapIdx eq kx l:Int)],_,h,.inl (by simp[execOp,ho,hrun]),hm,rfl,hlat, #[vv,.int .i64 (mapIdx eq kx l:Int)],rfl,hw,rfl,trivial⟩
theorem yG {cfg:Cfg}(hT:cg P cfg.tt)(m:bA cx nt φ S st a w){o:Oper}{t:TypeId}{x y z:Operand}(ho:o.op=.entryStore t x y z){κ:V->St->Option ρ}{r:ρ}(h:aS cfg st o κ=some r):aU P cx φ S st a w o κ r:=by
 simp only[aS,ho]at h;split at h
 case h_2=>cases h
 rename_i i e;split at h
 case h_2=>cases h
 rename_i k el ek;split at h
 case h_2=>cases h
 rename_i ie e2;unfold fv at h;split at h
 case h_2=>cases h
 rename_i b n kk j vx hx hy evx;have hvx:=il (cD m z) evx;have hyv:a.eval y=.int kk j:=bO m hy;obtain⟨hl,q,hq,hb,hv⟩:aQ S w φ st.h (.mapr b n) (a.eval x):=bO m hx;have hbn:=m.m.b n
 cases b with
 |true=>cases h
 |false=>
  simp only[ac]at h;split at h
  case h_2=>cases h
  rename_i t' ka va ku vu l en;rw[en]at hbn;split at h
  case h_2=>cases h
  rename_i hb3;simp only[aH]at hb3;have hva:=eN hb3.2;subst hva;split at h
  case isFalse=>cases h
  rename_i hvu;subst hvu;obtain⟨p,hp,h⟩:=bR.1 h;unfold aq at hp;split at hp
  case isFalse=>cases hp
  rename_i h0j;obtain⟨p1,p2,⟨h0,hl0⟩|⟨r0,es,clock,h0,hg,hes,hok⟩⟩:=hbn
  . rw[h0]at hv
    cases q with
    |none=>cases hb
    |some q=>cases hv
  . have hx:a.eval x=.map (some r0):=by
     rw[h0]at hv
     cases q with
     |none=>cases hv
     |some q=>rw[hq];exact hv.symm
    obtain⟨e',he',hpe⟩:=hes.1.get hp;have hje:es[j.toNat]? =some e':=by simpa using he'
    have hfi:es.findIdx? (λe=>(e.born:Int)==j)=some j.toNat:=by
     rw[Array.findIdx?_eq_some_iff_getElem];refine⟨(dU.1 hje).1,?_,λi hi=> ?_⟩
     . have:=hes.2.2 j.toNat e' hje;rw[(dU.1 hje).2,this];simp;omega
     . have hil:i<es.size:=Nat.lt_trans hi (dU.1 hje).1;have:=hes.2.2 i es[i] (vF hil);rw[this];simp;omega
    have hrun:(Instr.entryStore t (a.eval x) (a.eval y) (a.eval z)).run P w=.ok () (setBlock w r0 (.map (es.modify j.toNat λe=>{e with val:=a.eval z}) clock)):=by simp[Instr.entryStore,hx,hyv,asInt,asIntOf,MapKept.run_getObj_map hg,hfi,MapKept.run_setObj_map _ hg,Result.andThen,setBlock]
    have hes':lE S w ka ie.agg ku ie.u (l.set j.toNat (p.1,vx)) (es.modify j.toNat λe=>{e with val:=a.eval z}) clock:=hes.modify hje ⟨hpe.1,hvx⟩ rfl;have hmut:(st.h n).mut=true:=by rw[en];rfl
    have hold:∀k,some n=some k->(st.h k).mut=true:=λk hk=>by injection hk with hk;subst hk;exact hmut
    have hsz:w.heap.size=(setBlock w r0 (.map (es.modify j.toNat λe=>{e with val:=a.eval z}) clock)).heap.size:=by simp[setBlock]
    have hkeep:∀g,g<w.heap.size->(∀k,some n=some k->¬Bk (φ k) g)->(setBlock w r0 (.map (es.modify j.toNat λe=>{e with val:=a.eval z}) clock)).heap[g]? =w.heap[g]? :=λg _ hne=>heap_setBlock_other hg _ λe=>hne n rfl (by rw[h0,e];exact iR.2 rfl)
    have hfree:(some n:Option Nat)=some n/\pv (φ n)=pv (φ n)\/(st.h n).live=false/\bZ n=false:=.inl ⟨rfl,rfl⟩;have hlat:=bE.ec m.m (some n) hold hkeep n (.mp t' ka ie.agg ku ie.u (l.set j.toNat (p.1,vx))) (φ n) rfl hfree
    have hm:=m.m.change (w':=setBlock w r0 (.map (es.modify j.toNat λe=>{e with val:=a.eval z}) clock)) rfl rfl rfl (fM hsz) (some n) hold hkeep n (.mp t' ka ie.agg ku ie.u (l.set j.toNat (p.1,vx))) (φ n) rfl hfree (λg hg=>.inl ⟨n,rfl,hg⟩)
     (λh' hh=>⟨p1,p2,.inr ⟨r0,_,clock,h0,heap_setBlock_same hg _,hes'.mono λ_ _ hh=>⟨hh.1.mono (λ_ h=>h) hlat.k,hh.2.mono (λ_ h=>h) hlat.k⟩,hok⟩⟩)
    simp only[giveUp,iI]at hm hlat;exact⟨_,_,_,S,undef,_,h,.inr ⟨by simp[execOp,ho,hrun],rfl⟩,hm,rfl,hlat,rfl⟩
end
end Go.Proofs.YtlkkaielmdlefaaGreatDoor.R1
namespace Go.Proofs.YtlkkaielmdlefaaGreatDoor.R1
open Go.MapKept Go.ChangeMaps
variable {P : Program} {ρ : Type}
section
variable {cx : Cx} {nt : Nat} {φ : Nat → Value} {S : Nat → Prop} {h : Nat → B} {st : St} {a : Act} {w : World}
theorem dz.push {ka:Bool}{ku:U}{e:Nat}{u:U}{x:El ku×Option (List (El u))}{en:MapEntry}{F2:List Nat}(h1:fq S w ka ku x.1 en.key)(h2:sn S w e u x.2 en.val F2):∀{l:List (El ku×Option (List (El u)))}{es:List MapEntry}{F:List Nat},dz S w ka ku e u l es F->dz S w ka ku e u (l++[x]) (es++[en]) (F++F2)
 |[],[],F,h=>by
  have:F=[]:=h;subst this;exact⟨F2,[],by simp,h1,h2,rfl⟩
 |_::l,_::es,_,⟨G1,G2,e1,k1,k2,k3⟩=>⟨G1,G2++F2,by rw[e1,bL],k1,k2,dz.push h1 h2 k3⟩
 |[],_::_,_,h=>h.elim
 |_::_,[],_,h=>h.elim
theorem ud {k:TypeId}{ka:Bool}{ku:U}{e:Nat}{u:U}{eq:El ku->El ku->Bool}{d:TypeDesc}(K:BV P k ka ku eq d){x:El ku}{v:Value}(hx:fq S w ka ku x v):∀{l:List (El ku×Option (List (El u)))}{es:List MapEntry}{F:List Nat}(i:Nat),dz S w ka ku e u l es F->
    (Instr.findNow d v es i=some none/\dr eq x l=some ([],l)/\∀y,cd eq x y l=l++[(x,y)])\/
    ∃j en F1 F2 F3,∃o:Option (List (El u)),Instr.findNow d v es i=some (some (i+j,en.val))/\es[j]? =some en/\en.key=v/\F=F1++(F2++F3)/\sn S w e u o en.val F2/\
     (o=none->dr eq x l=none)/\(∀r,o=some r->∃l',dr eq x l=some (r,l')/\dz S w ka ku e u l' es (F1++F3))/\
     ∀y(en':MapEntry) F2',fq S w ka ku x en'.key->sn S w e u y en'.val F2'->dz S w ka ku e u (cd eq x y l) (es.set j en') (F1++(F2'++F3))
 |[],[],_,i,_=>.inl ⟨rfl,rfl,λ_=>rfl⟩
 |p::l,en::es,F,i,⟨F1,F2,e1,k1,k2,k3⟩=>by
  subst e1;have hs:=K.same hx k1
  cases hq:eq x p.1 with
  |true=>
   rw[hq]at hs;refine .inr ⟨0,en,[],F1,F2,p.2,by simp[Instr.findNow,hs],rfl,K.eq hx k1 hq,rfl,k2,λho=> ?_,λr ho=> ?_,λy en' F2' g1 g2=> ?_⟩
   . simp[dr,hq,ho]
   . exact⟨(p.1,none)::l,by simp[dr,hq,ho],[],F2,rfl,k1,rfl,k3⟩
   . simp only[cd,hq,ab,List.set_cons_zero,List.nil_append];exact⟨F2',F2,rfl,g1,g2,k3⟩
  |false=>
   rw[hq]at hs;rcases ud K hx (i+1) k3 with⟨g1,g2,g3⟩|⟨j,en2,G1,G2,G3,o,g1,g2,g3,g4,g5,g6,g7,g8⟩
   . exact .inl ⟨by simp[Instr.findNow,hs,g1],by simp[dr,hq,g2],λy=>by simp[cd,hq,g3]⟩
   . subst g4;refine .inr ⟨j+1,en2,F1++G1,G2,G3,o,by simp[Instr.findNow,hs,g1];omega,by simpa using g2,g3,by simp,g5,λho=> ?_,λr ho=> ?_,λy en' F2' q1 q2=> ?_⟩
     . simp[dr,hq,g6 ho]
     . obtain⟨l',q1,q2⟩:=g7 r ho;exact⟨p::l',by simp[dr,hq,q1],F1,G1++G3,by simp,k1,k2,q2⟩
     . simp only[cd,hq,ac,List.set_cons_succ];exact⟨F1,G1++(F2'++G3),by simp,k1,k2,g8 y en' F2' q1 q2⟩
 |[],_::_,_,_,h=>h.elim
 |_::_,[],_,_,h=>h.elim
theorem FL {es:Array MapEntry}{j:Nat}{e:MapEntry}(hj:es[j]? =some e)(f:MapEntry->MapEntry):(es.modify j f).toList=es.toList.set j (f e):=by
 have hjl:j<es.size:=(dU.1 hj).1;apply r9;intro q;rw[uQ,vJ,List.getElem?_set];by_cases hq:j=q
 . subst hq;simp[hjl,(dU.1 hj).2]
 . simp[hq]
theorem iQ.push {es:Array MapEntry}{clock:Nat}(h:iQ es clock){e:MapEntry}(hb:e.born=clock):iQ (es.push e) (clock+1):=by
 refine⟨by simp[h.1],λi e' hi=> ?_⟩;rw[Array.getElem?_push]at hi;split at hi
 . rename_i q;injection hi with hi;subst hi;rw[hb,h.1,q]
 . exact h.2 i e' hi
theorem iQ.modify {es:Array MapEntry}{clock j:Nat}(h:iQ es clock){f:MapEntry->MapEntry}(hb:∀e,(f e).born=e.born):iQ (es.modify j f) clock:=by
 refine⟨by simp[h.1],λi e' hi=> ?_⟩;rw[vJ]at hi;split at hi
 . cases q:es[i]? with
   |none=>rw[q]at hi;cases hi
   |some e0=>rw[q]at hi;simp only[Option.map_some]at hi;injection hi with hi;subst hi;rw[hb];exact h.2 i e0 q
 . exact h.2 i e' hi
theorem EQ {e:Nat}{u:U}{l:List (El u)}{v:Value}{F:List Nat}(ho:di (bC S w (.d u)) w e u.n l v F):F=(blk v).toList/\pf v=F/\∃A k c,v=.slice A k c:=by have hs:=ho.slice;obtain⟨A,k,c,hv⟩:=hs;obtain⟨flat,F',_,how,hl,rfl⟩:=ho;obtain⟨rfl,_⟩:=bY.Ju hl;exact⟨by simp,by rw[CD hv];simp,A,k,c,hv⟩
theorem aY.TN (m:aY cx φ S h w){n dst t e:Nat}{ka:Bool}{ku u:U}{l l':List (El ku×Option (List (El u)))}{row:List (El u)}{vk:Value}{r:Nat}{es:Array MapEntry}{clock:Nat}{F F' F2:List Nat}
    (eh:h n=.mr t ka ku e u l) (hku:ku.flat=true) (hr:pv (φ n)=.map (some r)) (hg:w.heap[r]? =some (.map es clock)) (hm':dz S w ka ku e u l' es.toList F') (hst:iQ es clock) (hnd:(r::F).Nodup) (hF:∀g∈r::F,Bk (φ n) g) (hok:∀g,Bk (φ n) g->cx.ok g/\g<w.heap.size)
    (hrow:di (bC S w (.d u)) w e u.n row vk F2) (hperm:F.Perm (F2++F')) (hd:h dst=.free) (hdk:bZ dst=false):
    ∃φ',aY cx φ' S (upd (upd h n (.mr t ka ku e u l')) dst (.row e u row)) w/\bE S S w w φ φ' h (upd (upd h n (.mr t ka ku e u l')) dst (.row e u row))/\φ' dst=vk:=by
 have hnd':n≠dst:=by rintro rfl;rw[eh]at hd;cases hd
 obtain⟨_,hpf,A,kk,cc,hvk⟩:=EQ hrow;have hnr:=fC.1 hnd;have hnd2:=hperm.nodup_iff.1 hnr.2;have hnd3:=cQ.1 hnd2;have in2:∀g∈F2,g∈F:=λg hg=>hperm.mem_iff.2 (aC.2 (.inl hg))
 have in1:∀g∈F',g∈F:=λg hg=>hperm.mem_iff.2 (aC.2 (.inr hg))
 let G:List Nat:=(pf (φ n)).filter λg=> !(F2.contains g)
 have hG:∀g,g∈G↔Bk (φ n) g/\g∉F2:=λg=>by simp[G,List.mem_filter,Bk]
 let φ':Nat->Value:=upd (upd φ n (eK (.map (some r)) G)) dst vk
 have φd:φ' dst=vk:=aj _ _ _;have φn:φ' n=eK (.map (some r)) G:=by show upd _ _ _ _=_;rw[az _ _ hnd',aj]
 have φo:∀i,i≠n->i≠dst->φ' i=φ i:=λi h1 h2=>by show upd _ _ _ _=_;rw[az _ _ h2,az _ _ h1]
 have hn':(upd (upd h n (.mr t ka ku e u l')) dst (.row e u row)) n=.mr t ka ku e u l':=by rw[az _ _ hnd',aj]
 have hd':(upd (upd h n (.mr t ka ku e u l')) dst (.row e u row)) dst=.row e u row:=aj _ _ _;have ho':∀i,i≠n->i≠dst->(upd (upd h n (.mr t ka ku e u l')) dst (.row e u row)) i=h i:=λi h1 h2=>by rw[az _ _ h2,az _ _ h1]
 generalize upd (upd h n (.mr t ka ku e u l')) dst (.row e u row)=h' at hn' hd' ho'⊢;have bkd:∀g,Bk (φ' dst) g↔g∈F2:=λg=>by rw[φd];unfold Bk;rw[hpf]
 have bkn:∀g,Bk (φ' n) g↔Bk (φ n) g/\g∉F2:=λg=>by rw[φn];unfold Bk;rw[cw];exact hG g
 have live:∀i,(h i).live=true->(h' i).live=true/\pv (φ' i)=pv (φ i):=by
  intro i hi;by_cases e1:i=dst
  . subst e1;rw[hd]at hi;cases hi
  . by_cases e2:i=n
    . subst e2;rw[hn',φn,cF,hr];exact⟨rfl,rfl⟩
    . rw[ho' i e2 e1,φo i e2 e1];exact⟨hi,rfl⟩
 refine⟨φ',m.vz (λi=>i=n\/i=dst) ?_ live ?_ ?_ ?_ ?_ ?_,⟨λ_ h=>h,λ_ _=>rfl,live⟩,φd⟩
 . intro i hi;exact⟨ho' i (λq=>hi (.inl q)) (λq=>hi (.inr q)),φo i (λq=>hi (.inl q)) (λq=>hi (.inr q))⟩
 . rintro i (rfl|rfl)
   . rw[hn',φn];refine⟨hku,r,es,clock,F',cF _ _,hg,hm',hst,?_,?_,?_⟩
     . exact fC.2 ⟨λq=>hnr.1 (in1 r q),hnd3.2.1⟩
     . intro g hg;unfold Bk;rw[cw,hG];rcases aG.1 hg with rfl|q
       . exact⟨hF _ (bQ ..),λq=>hnr.1 (in2 _ q)⟩
       . exact⟨hF _ (bk _ (in1 g q)),λq2=>hnd3.2.2 g q2 g q rfl⟩
     . intro g hg;unfold Bk at hg;rw[cw,hG]at hg;exact hok g hg.1
   . rw[hd',φd];have:=Bh (φ:=φ') (h:=h') (ok:=cx.ok) (e:=.d u) hrow hnd3.1 λg hg=>(hok g (hF g (bk _ (in2 g hg)))).1
     exact this
 . rintro i g (rfl|rfl) _ hb
   . exact⟨i,.inl rfl,by rw[eh];rfl,((bkn g).1 hb).1⟩
   . exact⟨n,.inl rfl,by rw[eh];rfl,hF g (bk _ (in2 g ((bkd g).1 hb)))⟩
 . rintro i j g hlt (rfl|rfl) (rfl|rfl) _ _ hb1 hb2
   . omega
   . exact((bkn g).1 hb1).2 ((bkd g).1 hb2)
   . exact((bkn g).1 hb2).2 ((bkd g).1 hb1)
   . omega
 . rintro i (rfl|rfl)
   . cases hg:bH i with
     |false=>rfl
     |true=>have:=(m.gl i hg).2;rw[eh]at this;cases this
   . exact ia hdk
 . rintro i (rfl|rfl) hk
   . rw[eh];rfl
   . rw[hdk]at hk;cases hk
theorem aY.WG (m:aY cx φ S h w){n k t e e':Nat}{ka:Bool}{ku u u':U}{l:List (El ku×Option (List (El u)))}{row:List (El u')}{r:Nat}{es:Array MapEntry}{clock:Nat}{F:List Nat}
    (eh:h n=.mr t ka ku e u l) (ek:h k=.row e' u' row) (hku:ku.flat=true) (hr:pv (φ n)=.map (some r)) (hg:w.heap[r]? =some (.map es clock)) (hm':dz S w ka ku e u l es.toList F) (hst:iQ es clock) (hnd:(r::F).Nodup) (hF:∀g∈r::F,Bk (φ n) g) (hok:∀g,Bk (φ n) g->cx.ok g/\g<w.heap.size):
    aY cx (upd φ n (eK (.map (some r)) (pf (φ n)++pf (φ k)))) S (upd h k .gone) w/\bE S S w w φ (upd φ n (eK (.map (some r)) (pf (φ n)++pf (φ k)))) h (upd h k .gone):=by
 have hnk:n≠k:=by rintro rfl;rw[eh]at ek;cases ek
 have hkm:(h k).mut=true:=by rw[ek];rfl
 have hnm:(h n).mut=true:=by rw[eh];rfl
 have hkb:=m.b k
 have live:∀i,(h i).live=true->(upd h k .gone i).live=true/\pv (upd φ n (eK (.map (some r)) (pf (φ n)++pf (φ k))) i)=pv (φ i):=by
  intro i hi;refine⟨kf rfl i hi,?_⟩;by_cases e2:i=n
  . subst e2;rw[aj,cF,hr]
  . rw[az _ _ e2]
 have bkn:∀g,Bk (upd φ n (eK (.map (some r)) (pf (φ n)++pf (φ k))) n) g↔Bk (φ n) g\/Bk (φ k) g:=λg=>by rw[aj];unfold Bk;rw[cw];exact aC
 refine⟨m.vz (λi=>i=n\/i=k) ?_ live ?_ ?_ ?_ ?_ ?_,⟨λ_ h=>h,λ_ _=>rfl,live⟩⟩
 . intro i hi;exact⟨az _ _ λq=>hi (.inr q),az _ _ λq=>hi (.inl q)⟩
 . rintro i (rfl|rfl)
   . rw[az _ _ hnk,eh];refine⟨hku,r,es,clock,F,by rw[aj,cF],hg,hm',hst,hnd,λg hg=>(bkn g).2 (.inl (hF g hg)),λg hg=> ?_⟩;rcases(bkn g).1 hg with q|q
     . exact hok g q
     . exact⟨gj hkm hkb q,m.iS hkm q⟩
   . rw[aj];trivial
 . rintro i g (rfl|rfl) hmu hb
   . rcases(bkn g).1 hb with q|q
     . exact⟨i,.inl rfl,hnm,q⟩
     . exact⟨k,.inr rfl,hkm,q⟩
   . rw[aj]at hmu;cases hmu
 . rintro i j g hlt (rfl|rfl) (rfl|rfl) m1 m2 hb1 hb2
   . omega
   . rw[aj]at m2;cases m2
   . rw[aj]at m1;cases m1
   . omega
 . rintro i (rfl|rfl)
   . cases hg:bH i with
     |false=>rfl
     |true=>have:=(m.gl i hg).2;rw[hnm]at this;cases this
   . cases hg:bH i with
     |false=>rfl
     |true=>have:=(m.gl i hg).2;rw[hkm]at this;cases this
 . rintro i (rfl|rfl) _
   . exact bM hnm
   . exact bM hkm
theorem aY.abH (m:aY cx φ S h w)(n:Nat)(b:B)(v:Value)(T:Nat->Prop)(hmut:(h n).mut=true)(hbm:b.mut=true)(hpv:pv v=pv (φ n))(hsub:∀g,Bk v g->Bk (φ n) g/\¬T g)(hT:∀g,T g->Bk (φ n) g)
    (hrel:ci (λg=>S g\/T g) w (upd φ n v) (upd h n b) cx.ok v b):aY cx (upd φ n v) (λg=>S g\/T g) (upd h n b) w:=by
 have hbl:=bM hbm
 have hφ:∀k,(h k).live=true->(upd h n b k).live=true/\pv (upd φ n v k)=pv (φ k):=λk hk=>⟨kf hbl k hk,by
  by_cases e:k=n
  . subst e;rw[aj,hpv]
  . rw[az _ _ e]⟩
 have hm:∀k g,(upd h n b k).mut=true->Bk (upd φ n v k) g->(h k).mut=true/\Bk (φ k) g/\(k=n->¬T g):=by
  intro k g hk hb;by_cases e2:k=n
  . subst e2;rw[aj]at hb;exact⟨hmut,(hsub g hb).1,λ_=>(hsub g hb).2⟩
  . rw[az _ _ e2]at hk hb;exact⟨hk,hb,λq=>absurd q e2⟩
 constructor
 . intro k;by_cases e2:k=n
   . subst e2;rw[aj,aj];exact hrel
   . rw[az _ _ e2,az _ _ e2];exact ci.mono (λg h=>.inl h) (λ_ _=>rfl) hφ (λ_ _ _=>rfl) (m.b k)
 . intro k j g hkj hk hj hbk hbj;obtain⟨a1,a2,_⟩:=hm k g hk hbk;obtain⟨b1,b2,_⟩:=hm j g hj hbj;exact m.apart k j g hkj a1 b1 a2 b2
 . intro k g hk hbk hS;obtain⟨a1,a2,a3⟩:=hm k g hk hbk;rcases hS with hS|hS
   . exact m.sep k g a1 a2 hS
   . by_cases e2:k=n
     . exact a3 e2 hS
     . exact m.apart k n g e2 a1 hmut a2 (hT g hS)
 . rintro g (hS|hS) hlt
   . exact m.inS g hS hlt
   . rcases gj hmut (m.b n) (hT g hS)with h|h
     . omega
     . exact .inr h
 . rintro g (hS|hS)
   . exact m.lt g hS
   . exact m.iS hmut (hT g hS)
 . intro g hgl hg;have:cU g≠n:=by intro q;have:=(m.gl (cU g) hgl).2;rw[q,hmut]at this;cases this
   rw[az _ _ this]at hg⊢;exact m.aB g hgl hg
 . intro k hgl;have hg:=m.gl k hgl;have:k≠n:=by rintro rfl;rw[hmut]at hg;exact absurd hg.2 (by simp)
   rw[az _ _ this];exact hg
 . intro k hk hl;by_cases e2:k=n
   . subst e2;rw[aj,hpv];exact m.kp k hk (bM hmut)
   . rw[az _ _ e2]at hl;rw[az _ _ e2];exact m.kp k hk hl
 . exact m.keep
theorem AU {S':Nat->Prop}{ka:Bool}{ku:U}{e:Nat}{u:U}(hS:∀g,S g->S' g):∀{l:List (El ku×Option (List (El u)))}{es:List MapEntry}{F:List Nat}{l':List (El ku×List (El u))},(∀g∈F,S' g)->dz S w ka ku e u l es F->mO l=some l'->aW (tH S' w ka false ku (.sl u)) l' es
 |[],[],_,l',_,_,h=>by injection h with h;subst h;trivial
 |p::l,en::es,_,l',hF,⟨F1,F2,e1,k1,k2,k3⟩,h=>by
  subst e1;simp only[mO]at h;split at h
  case h_2=>cases h
  rename_i r q er eq;injection h with h;subst h;refine⟨⟨k1.mono hS (λ_ _=>rfl),?_⟩,AU hS (λg hg=>hF g (aC.2 (.inr hg))) k3 eq⟩;rw[er]at k2;have k2:di (bC S w (.d u)) w e u.n r en.val F1:=k2;exact di.rep (λx vs G hG hx=>bC.rep hS hG hx) (λg hg=>hF g (aC.2 (.inl hg))) k2
 |[],_::_,_,_,_,h,_=>h.elim
 |_::_,[],_,_,_,h,_=>h.elim
theorem aY.aaF (m:aY cx φ S h w){n t e:Nat}{ka:Bool}{ku u:U}{l:List (El ku×Option (List (El u)))}{l':List (El ku×List (El u))}(eh:h n=.mr t ka ku e u l)(hl:mO l=some l'):
    ∃φ' S',aY cx φ' S' (upd h n (.mp t ka false ku (.sl u) l')) w/\bE S S' w w φ φ' h (upd h n (.mp t ka false ku (.sl u) l')):=by
 have hb:=m.b n;rw[eh]at hb;obtain⟨hku,r,es,clock,F,hr,hg,hm,hst,hnd,hF,hok⟩:=hb;have hnr:=fC.1 hnd;refine⟨upd φ n (.map (some r)),λg=>S g\/g∈F,m.abH n _ _ (λg=>g∈F) (by rw[eh];rfl) rfl (by rw[hr];rfl) (λg hg=> ?_) (λg hg=>hF g (bk _ hg)) ?_,?_⟩
 . rw[iR]at hg;subst hg;exact⟨hF _ (bQ ..),hnr.1⟩
 . exact⟨hku,trivial,.inr ⟨r,es,clock,rfl,hg,⟨AU (λg h=>.inl h) (λg hg=>.inr hg) hm hl,hst⟩,(hok r (hF r (bQ ..))).1⟩⟩
 . refine⟨λ_ h=>.inl h,λ_ _=>rfl,λk hk=>⟨kf rfl k hk,?_⟩⟩;by_cases e2:k=n
   . subst e2;rw[aj,hr];rfl
   . rw[az _ _ e2]
theorem Ht {n:Nat}{b:Bool}{x:Value}(m:aY cx φ S h w){t e:Nat}{ka:Bool}{ku u:U}{l:List (El ku×Option (List (El u)))}(eh:h n=.mr t ka ku e u l)(hx:aQ S w φ h (.mapr b n) x):
    b=false/\ku.flat=true/\∃r es clock F,x=.map (some r)/\pv (φ n)=.map (some r)/\w.heap[r]? =some (.map es clock)/\dz S w ka ku e u l es.toList F/\iQ es clock/\(r::F).Nodup/\(∀g∈r::F,Bk (φ n) g)/\∀g,Bk (φ n) g->cx.ok g/\g<w.heap.size:=by
 have hb:=m.b n;rw[eh]at hb;obtain⟨hku,r,es,clock,F,hr,rest⟩:=hb;obtain⟨_,q,hq,hbb,hv⟩:=hx;rw[hr]at hv
 cases q with
 |none=>cases hv
 |some q=>injection hv with hv;injection hv with hv;subst hv;exact⟨hbb,hku,r,es,clock,F,hq,hr,rest⟩
theorem step_take {cfg:Cfg}(hT:cg P cfg.tt)(m:bA cx nt φ S st a w){o:Oper}{t:TypeId}{x y:Operand}(ho:o.op=.lookup t x y false){i ik ie:TI}{k el:Nat}(e:cfg.ty t=some i)(ek:i.k=.map k el)(e1:cfg.ty k=some ik)(e2:cfg.ty el=some ie)(hz:ie.zero.length=ie.size)
    {κ:V->St->Option ρ} {r:ρ} (h:jU st ik ie (iN cfg.tt k ik.u) t (Oper.name o) (ay st x) (ay st y) κ=some r):aU P cx φ S st a w o κ r:=by
 have hu:=(hT t i e).map ek;unfold jU at h;split at h
 case h_2=>cases h
 rename_i eq kx eeq ekx ez eag;obtain⟨d,K⟩:=pD hT e1 eeq;have hkx:=il (cD m y) ekx;have oke:=hT el ie e2;obtain⟨inf,zv,i1,_,_,i4,i5,i6⟩:=oke.info;have hz1:(zeroValue el).run P w=.ok zv w:=by simp[zeroValue,typeInfo,i1,i4]
 have hz2:aW (aQ S w φ (λ_=>.free)) ie.zero zv.cells.toList:=cL (i6 hz)
 have hzv:zv=.slice none 0 0:=by
  have hag:=oke.zagg inf zv i1 i4;rw[eag]at hag;rw[ez]at hz2
  cases zv with
  |agg cs=>cases hag
  |_=>exact hz2.1
 have hck:∀em,(Instr.checkKey em 10000 k (a.eval y)).run P w=.ok () w:=λem=>run_checkKey K.und (K.isKey hkx) em 9999
 split at h
 case h_2=>cases h
 rename_i b n hx;split at h
 case h_2=>cases h
 rename_i t' ka ku ee u l en;split at h
 case h_2=>cases h
 rename_i hb3;simp only[aH]at hb3;obtain⟨⟨_,hka⟩,hun⟩:=hb3;have hka:=eN hka;subst hka;split at h
 case isFalse=>cases h
 rename_i hku;subst hku;obtain⟨p,hp,h⟩:=bR.1 h;obtain⟨hf,hgl,h⟩:=eQ h;obtain⟨hb,hkf,r0,es,clock,F,hx,hr,hg,hm,hst,hnd,hF,hok⟩:=Ht m.m en (bO m hx)
 have hfd:st.h (Oper.name o)=.free:=by
  have hn:n≠Oper.name o:=by intro q;have:upd st.h n (.mr t' ik.agg ik.u ee u p.2) (Oper.name o)=.free:=hf;rw[<-q,aj]at this;cases this
  have:upd st.h n (.mr t' ik.agg ik.u ee u p.2) (Oper.name o)=.free:=hf;rwa[az _ _ λq=>hn q.symm]at this
 have key:∃vk F2 F',(Instr.lookup t (a.eval x) (a.eval y) false).run P w=.ok vk w/\di (bC S w (.d u)) w ee u.n p.1 vk F2/\dz S w ik.agg ik.u ee u p.2 es.toList F'/\F.Perm (F2++F'):=by
  rcases ud K hkx 0 hm with⟨g1,g2,_⟩|⟨j,en2,F1,F2,F3,oo,g1,g2,_,g4,g5,g6,g7,_⟩
  . rw[show dr eq kx _=_ from hp]at g2;injection g2 with g2;rw[g2];have hf:(Instr.findKey k (a.eval y) es.toList).run P w=.ok none w:=run_findKey K.und g1;refine⟨zv,[],F,?_,?_,hm,.refl _⟩
    . simp[Instr.lookup,run_underlying hu,hx,MapKept.run_getObj_map hg,hck,hf,hz1,Result.andThen]
    . rw[hzv];exact⟨[],[],by rwa[dM]at hun,World.ownsRow_nil _ _ _ _,⟨rfl,rfl⟩,rfl⟩
  . have hf:(Instr.findKey k (a.eval y) es.toList).run P w=.ok (some (0+j,en2.val)) w:=run_findKey K.und g1
    cases oo with
    |none=>rw[show dr eq kx _=_ from hp]at g6;cases g6 rfl
    |some row=>
     obtain⟨l',q1,q2⟩:=g7 row rfl;rw[show dr eq kx _=_ from hp]at q1;injection q1 with q1;rw[q1];refine⟨en2.val,F2,F1++F3,?_,g5,q2,?_⟩
     . simp[Instr.lookup,run_underlying hu,hx,MapKept.run_getObj_map hg,hck,hf,Result.andThen]
     . rw[g4];exact ir _ _ _
 obtain⟨vk,F2,F',hrun,hrow,hm',hperm⟩:=key;obtain⟨φ',hm2,hlat,hφd⟩:=m.m.TN en hkf hr hg hm' hst hnd hF hok hrow hperm hfd hgl;obtain⟨_,_,A,kk,cc,hvk⟩:=EQ hrow;refine⟨_,_,φ',S,vk,w,h,.inl (by simp[execOp,ho,hrun]),hm2,rfl,hlat,?_⟩;exact⟨by show(upd (upd st.h n (.mr t' ik.agg ik.u ee u p.2)) (Oper.name o) (.row ee u p.1) (Oper.name o)).live=true;rw[aj];rfl,by rw[hφd,pJ ⟨A,kk,cc,hvk⟩],A,kk,cc,hvk⟩
theorem LB {st st':St}(ht:st'.t=st.t)(hl:∀n,(st'.h n).live=(st.h n).live/\(st'.h n).step=(st.h n).step)(x:Operand):ay st' x=ay st x:=by
 cases x with
 |tmp t=>simp only[ay,ht]
 |const v=>rfl
 |func f=>rfl
 |global g=>simp only[ay,(hl (cU g)).1,(hl (cU g)).2]
theorem sP {x:V}{κ:St->Option ρ}{r:ρ}(h:mN st x κ=some r):∃b n t ka ku e u l l',x=.v (.c (.mapr b n))/\st.h n=.mr t ka ku e u l/\mO l=some l'/\κ {st with h:=upd st.h n (.mp t ka false ku (.sl u) l')}=some r:=by
 unfold mN at h;split at h
 case h_2=>cases h
 split at h
 case h_2=>cases h
 rename_i en;obtain⟨l',el,h⟩:=bR.1 h;exact⟨_,_,_,_,_,_,_,_,_,rfl,en,el,h⟩
theorem qh {n t e:Nat}{ka:Bool}{ku u:U}{l:List (El ku×Option (List (El u)))}{l':List (El ku×List (El u))}(eh:st.h n=.mr t ka ku e u l)(x:Operand):ay {st with h:=upd st.h n (.mp t ka false ku (.sl u) l')} x=ay st x:=by
 refine LB (st:=st) (st':={st with h:=upd st.h n (.mp t ka false ku (.sl u) l')}) rfl (λk=> ?_) x;show(upd st.h n _ k).live=_/\(upd st.h n _ k).step=_;by_cases q:k=n
 . subst q;rw[aj,eh];exact⟨rfl,rfl⟩
 . rw[az _ _ q];exact⟨rfl,rfl⟩
theorem L7 {cfg:Cfg}(hT:cg P cfg.tt)(m:bA cx nt φ S st a w){o:Oper}{t:TypeId}{x y:Operand}{cm:Bool}(ho:o.op=.lookup t x y cm){i ik ie:TI}{k el:Nat}(e:cfg.ty t=some i)(ek:i.k=.map k el)(e1:cfg.ty k=some ik)(e2:cfg.ty el=some ie)(hz:ie.zero.length=ie.size)
    {κ:V->St->Option ρ} {r:ρ} (h:(mN st (ay st x) λst'=>fW st' ik ie (datum (λ_=>.free) ie.u ie.zero) (iN cfg.tt k ik.u) t (ay st x) (ay st y) cm λv=>κ v st')=some r):aU P cx φ S st a w o κ r:=by
 obtain⟨b,n,t',ka,ku,ee,u,l,l',_,en,hl,h⟩:=sP h;obtain⟨φ',S',hm,hlat⟩:=m.m.aaF en hl;have m2:bA cx nt φ' S' {st with h:=upd st.h n (.mp t' ka false ku (.sl u) l')} a w:=⟨λi=>hlat.OX (m.t i),hm,m.size,m.defers⟩;rw[<-qh (l':=l') en x,<-qh (l':=l') en y]at h;obtain⟨v,st',φ2,S2,v',w',h1,h2,h3,h4,h5,h6⟩:=we hT m2 ho e ek e1 e2 hz h;exact⟨v,st',φ2,S2,v',w',h1,h2,h3,h4,hlat.trans h5,h6⟩
theorem FZ {cfg:Cfg}(hT:cg P cfg.tt)(m:bA cx nt φ S st a w){o:Oper}{t:TypeId}{x y:Operand}{cm:Bool}(ho:o.op=.lookup t x y cm){κ:V->St->Option ρ}{r:ρ}(h:aS cfg st o κ=some r):aU P cx φ S st a w o κ r:=by
 simp only[aS,ho]at h;split at h
 case h_2=>cases h
 rename_i i e;split at h
 case h_2=>cases h
 rename_i k el ek;split at h
 case h_2=>cases h
 rename_i ik ie e1 e2;split at h
 case h_2=>cases h
 rename_i hz;have hz:=aR hz
 cases ht:cfg.takes.any (Nat.beq (Oper.name o))&& !cm with
 |true=>
  rw[ht]at h;rw[aH]at ht
  cases cm with
  |true=>cases ht.2
  |false=>exact step_take hT m ho e ek e1 e2 hz h
 |false=>
  rw[ht]at h;simp only[ac]at h
  cases hm:cfg.melts.any (Nat.beq (Oper.name o))with
  |true=>rw[hm]at h;exact L7 hT m ho e ek e1 e2 hz h
  |false=>rw[hm]at h;exact we hT m ho e ek e1 e2 hz h
theorem Ty {k e:Nat}{u:U}{row:List (El u)}(m:aY cx φ S h w)(ek:h k=.row e u row):di (bC S w (.d u)) w e u.n row (φ k) (pf (φ k))/\(pf (φ k)).Nodup/\pv (φ k)=φ k:=by have hb:=m.b k;rw[ek]at hb;have hpv:=jD hb;obtain⟨_,h2,h3⟩:=Aa (t:=e) (e:=.d u) (l:=row) (by simp[xA]) hb;rw[hpv]at h2;exact⟨h2,h3,hpv⟩
theorem F0 {cfg:Cfg}(hT:cg P cfg.tt)(m:bA cx nt φ S st a w){o:Oper}{t:TypeId}{x y z:Operand}(ho:o.op=.mapUpdate t x y z){i ik:TI}{k el:Nat}(e:cfg.ty t=some i)(ek:i.k=.map k el)(e1:cfg.ty k=some ik)
    {κ:V->St->Option ρ} {r:ρ} (h:gC st ik (iN cfg.tt k ik.u) t (ay st x) (ay st y) (ay st z) (λst=>κ .und st)=some r):aU P cx φ S st a w o κ r:=by
 have hu:=(hT t i e).map ek;unfold gC at h;split at h
 case h_2=>cases h
 rename_i eq kx k2 eeq ekx ez;obtain⟨d,K⟩:=pD hT e1 eeq;have hkx:=il (cD m y) ekx;have hck:∀em,(Instr.checkKey em 10000 k (a.eval y)).run P w=.ok () w:=λem=>run_checkKey K.und (K.isKey hkx) em 9999
 split at h
 case h_2=>cases h
 rename_i b n hx
 cases b with
 |true=>cases h
 |false=>
  simp only[ac]at h;split at h
  case h_2=>cases h
  rename_i t' ka ku ee u l e' u' row en ek2;split at h
  case h_2=>cases h
  rename_i hb3;simp only[aH]at hb3;obtain⟨⟨_,hka⟩,he⟩:=hb3;have hka:=eN hka;subst hka;have he:=aR he;subst he;split at h
  case isFalse=>cases h
  rename_i hku;obtain⟨hku,huu⟩:=hku;subst hku;subst huu;obtain⟨_,hkf,r0,es,clock,F,hx,hr,hg,hm,hst,hnd,hF,hok⟩:=Ht m.m en (bO m hx);obtain⟨hzl,hzv,_⟩:aQ S w φ st.h (.row k2) (a.eval z):=bO m ez;obtain⟨hown,hnd2,hpv2⟩:=Ty m.m ek2;rw[hpv2]at hzv;have hnk:n≠k2:=by rintro rfl;rw[en]at ek2;cases ek2
  have hdis:∀g∈r0::F,g∉pf (φ k2):=λg hg hb=>m.m.apart n k2 g hnk (by rw[en];rfl) (by rw[ek2];rfl) (hF g hg) hb
  obtain⟨hm1,hlat1⟩:=m.m.WG en ek2 hkf hr hg hm hst hnd hF hok;have hnr:=fC.1 hnd;have kept:∀(o:Obj)(g:Nat),g≠r0->(setBlock w r0 o).heap[g]? =w.heap[g]? :=λo g hgr=>heap_setBlock_other hg o hgr
  have nS:¬S r0:=λq=>m.m.sep n r0 (by rw[en];rfl) (hF r0 (bQ ..)) q
  have kS:∀(o:Obj)(g:Nat),S g->(setBlock w r0 o).heap[g]? =w.heap[g]? :=λo g hgs=>kept o g λq=>nS (q▸hgs)
  have key:∃es' clock' F',(Instr.mapUpdate t (a.eval x) (a.eval y) (a.eval z)).run P w=.ok () (setBlock w r0 (.map es' clock'))/\dz S (setBlock w r0 (.map es' clock')) ik.agg ik.u e' u' (cd eq kx (some row) l) es'.toList F'/\iQ es' clock'/\(r0::F').Nodup/\∀g∈F',g∈F\/g∈pf (φ k2):=by
   rcases ud K hkx 0 hm with⟨g1,_,g3⟩|⟨j,en2,F1,F2,F3,oo,g1,g2,g3,g4,_,_,_,g8⟩
   . have hf:(Instr.findKey k (a.eval y) es.toList).run P w=.ok none w:=run_findKey K.und g1;refine⟨es.push ⟨a.eval y,a.eval z,clock⟩,clock+1,F++pf (φ k2),?_,?_,hst.push rfl,?_,λg hg=>aC.1 hg⟩
     . simp[Instr.mapUpdate,run_underlying hu,hx,MapKept.run_getObj_map hg,hck,hf,MapKept.run_setObj_map _ hg,Result.andThen,setBlock]
     . rw[g3,Array.toList_push];refine dz.mono (λ_ h=>h) (kS _) (λg hgm=>kept _ g ?_) (dz.push hkx ?_ hm)
       . rintro rfl;rcases aC.1 hgm with q|q
         . exact hnr.1 q
         . exact hdis _ (bQ ..) q
       . show sn S w e' u' (some row) (a.eval z) _;rw[hzv];exact hown
     . refine fC.2 ⟨λq=> ?_,cQ.2 ⟨hnr.2,hnd2,λg hg g' hg' e=>hdis g (bk _ hg) (e▸hg')⟩⟩;rcases aC.1 q with q|q
       . exact hnr.1 q
       . exact hdis _ (bQ ..) q
   . have hf:(Instr.findKey k (a.eval y) es.toList).run P w=.ok (some (0+j,en2.val)) w:=run_findKey K.und g1;have hj:es[j]? =some en2:=by simpa using g2
     have hks:(Instr.keyThatStays (a.eval y) (a.eval y)).run P w=.ok (a.eval y) w:=run_keyThatStays (K.isKey hkx);subst g4;have hnF:=cQ.1 hnr.2;have hnF2:=cQ.1 hnF.2.1;refine⟨es.modify j (λe=>{e with key:=a.eval y,val:=a.eval z}),clock,F1++(pf (φ k2)++F3),?_,?_,hst.modify λ_=>rfl,?_,λg hg=> ?_⟩
     . simp[Instr.mapUpdate,run_underlying hu,hx,MapKept.run_getObj_map hg,hck,hf,hj,g3,hks,MapKept.run_setObj_map _ hg,Result.andThen,setBlock]
     . rw[FL hj];refine dz.mono (λ_ h=>h) (kS _) (λg hgm=>kept _ g ?_) (g8 (some row) _ (pf (φ k2)) hkx (by show sn S w e' u' (some row) (a.eval z) _;rw[hzv];exact hown));rintro rfl;rcases aC.1 hgm with q|q
       . exact hnr.1 (aC.2 (.inl q))
       . rcases aC.1 q with q|q
         . exact hdis _ (bQ ..) q
         . exact hnr.1 (aC.2 (.inr (aC.2 (.inr q))))
     . refine fC.2 ⟨λq=> ?_,cQ.2 ⟨hnF.1,cQ.2 ⟨hnd2,hnF2.2.1,?_⟩,?_⟩⟩
       . rcases aC.1 q with q|q
         . exact hnr.1 (aC.2 (.inl q))
         . rcases aC.1 q with q|q
           . exact hdis _ (bQ ..) q
           . exact hnr.1 (aC.2 (.inr (aC.2 (.inr q))))
       . intro g hg g' hg' e;subst e;exact hdis g (bk _ (aC.2 (.inr (aC.2 (.inr hg'))))) hg
       . intro g hg g' hg' e;subst e;rcases aC.1 hg' with q|q
         . exact hdis g (bk _ (aC.2 (.inl hg))) q
         . exact hnF.2.2 g hg g (aC.2 (.inr q)) rfl
     . rcases aC.1 hg with q|q
       . exact .inl (aC.2 (.inl q))
       . rcases aC.1 q with q|q
         . exact .inr q
         . exact .inl (aC.2 (.inr (aC.2 (.inr q))))
  obtain⟨es',clock',F',hrun,hmr,hst',hnd',hF'⟩:=key;generalize hv1:eK (.map (some r0)) (pf (φ n)++pf (φ k2))=v1 at hm1 hlat1;have bk1:∀g,Bk v1 g↔Bk (φ n) g\/Bk (φ k2) g:=λg=>by rw[<-hv1];unfold Bk;rw[cw];exact aC
  have pv1:pv v1=.map (some r0):=by rw[<-hv1,cF]
  have eh1:upd st.h k2 .gone n=.mr t' ik.agg ik.u e' u' l:=by rw[az _ _ hnk,en]
  have hold:∀k,some n=some k->(upd st.h k2 .gone k).mut=true:=λk hk=>by injection hk with hk;subst hk;rw[eh1];rfl
  have hsz:w.heap.size=(setBlock w r0 (.map es' clock')).heap.size:=by simp[setBlock]
  have hkeep:∀g,g<w.heap.size->(∀k,some n=some k->¬Bk (upd φ n v1 k) g)->(setBlock w r0 (.map es' clock')).heap[g]? =w.heap[g]? :=λg _ hne=>kept _ g λq=>hne n rfl (by rw[aj,q];exact(bk1 r0).2 (.inl (hF r0 (bQ ..))))
  have hfree:(some n:Option Nat)=some n/\pv v1=pv (upd φ n v1 n)\/(upd st.h k2 .gone n).live=false/\bZ n=false:=.inl ⟨rfl,by rw[aj]⟩;have hlat:=bE.ec hm1 (some n) hold hkeep n (.mr t' ik.agg ik.u e' u' (cd eq kx (some row) l)) v1 rfl hfree
  have hmx:=hm1.change (w':=setBlock w r0 (.map es' clock')) rfl rfl rfl (fM hsz) (some n) hold hkeep n (.mr t' ik.agg ik.u e' u' (cd eq kx (some row) l)) v1 rfl hfree (λg hg=>.inl ⟨n,rfl,by rw[aj];exact hg⟩)
   (λh' hh=>⟨hkf,r0,es',clock',F',pv1,heap_setBlock_same hg _,hmr,hst',hnd',λg hg=>by
    rw[bk1];rcases aG.1 hg with rfl|q
    . exact .inl (hF _ (bQ ..))
    . rcases hF' g q with q|q
      . exact .inl (hF g (bk _ q))
      . exact .inr q,λg hg=>by
    rw[<-hsz];rcases(bk1 g).1 hg with q|q
    . exact hok g q
    . exact⟨gj (by rw[ek2];rfl) (m.m.b k2) q,m.m.iS (by rw[ek2];rfl) q⟩⟩)
  simp only[giveUp,iI]at hmx hlat;exact⟨_,_,_,S,undef,_,h,.inr ⟨by simp[execOp,ho,hrun],rfl⟩,hmx,rfl,hlat1.trans hlat,rfl⟩
theorem zQ {cfg:Cfg}(hT:cg P cfg.tt)(m:bA cx nt φ S st a w){o:Oper}{t:TypeId}{x y z:Operand}(ho:o.op=.mapUpdate t x y z){κ:V->St->Option ρ}{r:ρ}(h:aS cfg st o κ=some r):aU P cx φ S st a w o κ r:=by
 simp only[aS,ho]at h;split at h
 case h_2=>cases h
 rename_i i e;split at h
 case h_2=>cases h
 rename_i k el ek;split at h
 case h_2=>cases h
 rename_i ik ie e1 e2
 cases hm:sL st (ay st x)with
 |true=>rw[hm]at h;exact F0 hT m ho e ek e1 h
 |false=>rw[hm]at h;exact Ga hT m ho e ek e1 e2 h
end
end Go.Proofs.YtlkkaielmdlefaaGreatDoor.R1
namespace Go.Proofs.YtlkkaielmdlefaaGreatDoor.R1
variable {P : Program} {ρ : Type}
section
variable {cx : Cx} {nt : Nat} {φ : Nat → Value} {S : Nat → Prop} {st : St} {a : Act} {w : World}
theorem xF {f:Fn}:∀{vs:List V}{xs:List Value}{g c:C}{cs:Array Value},aW (bB S w φ st.h) vs xs->aQ S w φ st.h g (.func f #[] cs)->kW g vs=some c->aQ S w φ st.h c (.func f #[] (cs++xs.toArray))
 |[],[],g,c,cs,_,hg,h=>by simp[kW]at h;subst h;simpa using hg
 |v::vs,x::xs,g,c,cs,ha,hg,h=>by
  obtain⟨hv,ha⟩:=ha
  cases v with
  |v y=>cases y with
   |c y=>
    simp only[kW]at h;have hv:aQ S w φ st.h y x:=hv;have:=xF (cs:=cs.push x) ha (show aQ S w φ st.h (.cap g y) _ from⟨f,cs,x,hg,hv,rfl⟩) h;simpa using this
   |agg ys=>simp[kW]at h
  |_=>simp[kW]at h
 |[],_::_,_,_,_,ha,_,_=>ha.elim
 |_::_,[],_,_,_,ha,_,_=>ha.elim
theorem qk (m:bA cx nt φ S st a w):∀(l:List Operand),aW (bB S w φ st.h) (l.map (ay st)) (l.map a.eval)
 |[]=>trivial
 |x::l=>⟨cD m x,qk m l⟩
theorem BR (m:bA cx nt φ S st a w){cfg:Cfg}{o:Oper}{f:Nat}{first captured:Array Operand}(ho:o.op=.makeFunc (.func f) first captured){κ:V->St->Option ρ}{r:ρ}(h:aS cfg st o κ=some r):aU P cx φ S st a w o κ r:=by
 simp only[aS,ho]at h;split at h
 . rename_i c e1 e2;have hf:first= #[]:=by cases first;simp_all
   subst hf;have:=xF (f:=.func f) (cs:= #[]) (qk m captured.toList) (show aQ S w φ st.h (.fn f) _ from rfl) e2;refine aU.pure (v':=.func (.func f) #[] (captured.map a.eval)) m h (by simp[execOp,ho,Instr.makeFunc]) ?_;have e3: #[]++(captured.toList.map a.eval).toArray=captured.map a.eval:=by apply Array.ext';simp
   rw[e3]at this;exact this
 . cases h
theorem zP {cfg:Cfg}(hT:cg P cfg.tt)(m:bA cx nt φ S st a w){o:Oper}{t:TypeId}{x y:Operand}(ho:o.op=.makeSlice t x y){κ:V->St->Option ρ}{r:ρ}(h:aS cfg st o κ=some r):aU P cx φ S st a w o κ r:=by
 simp only[aS,ho]at h;split at h
 . rename_i i kx n ky n' e e1 e2;have hx:a.eval x=.int kx n:=bO m e1;have hy:a.eval y=.int ky n':=bO m e2;have ok:=hT t i e;split at h
   . rename_i e' ek;split at h
     . rename_i ie ee;split at h
       . rename_i sh esh;split at h
         . rename_i z ez;split at h
           . rename_i hsu
             have hsu:sh.u=ie.u:=by
              by_cases q:sh.u=ie.u
              . exact q
              . rw[ae q]at hsu;cases hsu
             obtain⟨h0,h1,h2,h'⟩:=wN h;clear h;subst h0;obtain⟨hu,hf,hgl,h⟩:=qK h';have oke:=hT e' ie ee;obtain⟨hus,hbp⟩:=oke.u (by rw[<-hsu];exact hu);rw[<-hsu]at hus;obtain⟨inf,zv,q1,q2,q3,q4,q5,q6⟩:=oke.info;have hz0:ie.zero.length=ie.size:=by rw[BJ ez,hus];simp
             have hz:=cL (S:=S) (w:=w) (φ:=φ) (h:=st.h) (q6 hz0);obtain⟨a1,a2,F,hvc,har,hrep,hF,_,_⟩:=sx m.m.b m.m.apart hz ez
             have:a2=[]:=by
              cases a2 with
              |nil=>rfl
              |cons=>exact har.elim
             subst this;rw[eO]at hvc;have hF0:F=[]:=List.eq_nil_iff_forall_not_mem.2 λg hg=>by obtain⟨n,hn,_⟩:=(hF g).1 hg;cases hn
             subst hF0;have hzsz:zv.cells.size=sh.u.n:=by rw[q5,hus]
             obtain⟨nn,rfl⟩:∃nn:Nat,n=nn:=⟨n.toNat,(se h1).symm⟩
             have h2':nn*ie.bytes≤roomy:=by
              have:((nn*ie.bytes:Nat):Int)≤(roomy:Int):=by rw[Int.natCast_mul];exact h2
              exact Int.ofNat_le.1 this
             have h63:nn≤Go.maxLen:=by have:nn≤nn*ie.bytes:=pR _ hbp;simp only[roomy,Go.maxLen]at*;omega
             obtain⟨w',hr,hown,hgrow⟩:=run_make_full (P:=P) w 0 t e' inf zv sh.u.n (ok.sl ek) q1 q4 (by rw[q2,hus]) kx ky nn (by rw[q3,Nat.mul_comm];simp only[roomy]at h2';omega) h63 (eC _);have hflat:=gX zv.cells (by rw[hzsz];exact hu) nn;rw[hzsz]at hflat;have hkeep:∀g,g<w.heap.size->w'.heap[g]? =w.heap[g]? :=λg hg=>hgrow.block g hg (by simp)
             have hrep':bC S w' sh z zv.cells.toList []:=by rw[hvc];exact hrep.mono (λ_ h=>h) (λg hg=>hkeep g (m.m.lt g hg)) (λg hg=>(by cases hg))
             have hoa:di (bC S w' sh) w' e' sh.u.n (List.replicate nn z) (.slice (some ⟨w.heap.size,0,none⟩) nn nn) [w.heap.size]:=⟨_,[],hu,by simpa using hown,by rw[hflat];exact qn hrep' nn,rfl⟩;obtain⟨hm,hlat⟩:=m.m.Eu hgrow.os hgrow.tape hgrow.output hgrow.size [] (λn hn=>(by cases hn)) (λg hg _=>hkeep g hg) (dst:=Oper.name o) hf hgl hoa (fC.2 ⟨by simp,nG⟩) (λg hg=>.inr (fM (bG.1 hg).symm));have hval:(List.replicate ((nn:Int)).toNat z)=List.replicate nn z:=rfl;refine⟨_,_,_,S,.slice (some ⟨w.heap.size,0,none⟩) nn nn,w',h,.inl ?_,hm,rfl,hlat,by show(upd (cC st.h []) _ _ _).live=true;rw[aj];rfl,by rw[aj,cF],⟨_,_,_,rfl⟩⟩;simp only[execOp,ho,hx,hy,Sem.run_bind,hr,Result.andThen_ok];rfl
           . cases h
         . cases h
       split at h
       . rename_i z ez;obtain⟨h0,h1,h2,h'⟩:=wN h;clear h;subst h0;obtain⟨hu,hf,hgl,h⟩:=fT h';have oke:=hT e' ie ee;obtain⟨hus,hbp⟩:=oke.u hu;have hz0:ie.zero.length=ie.size:=by rw[kY ez,hus]
         obtain⟨inf,zv,q1,q2,q3,q4,q5,q6⟩:=oke.info;have hz:=cL (S:=S) (w:=w) (φ:=φ) (h:=st.h) (q6 hz0);have hrz:Rep S w ie.u z zv.cells.toList:=ef m.m.b (λ_ h=>h) hz ez (by rw[nH oke hz0];simp);have hzsz:zv.cells.size=ie.u.n:=by rw[q5,hus]
         obtain⟨nn,rfl⟩:∃nn:Nat,n=nn:=⟨n.toNat,(se h1).symm⟩
         have h2':nn*ie.bytes≤roomy:=by
          have:((nn*ie.bytes:Nat):Int)≤(roomy:Int):=by rw[Int.natCast_mul];exact h2
          exact Int.ofNat_le.1 this
         have h63:nn≤Go.maxLen:=by have:nn≤nn*ie.bytes:=pR _ hbp;simp only[roomy,Go.maxLen]at*;omega
         obtain⟨w',hr,hown,hgrow⟩:=run_make_full (P:=P) w 0 t e' inf zv ie.u.n (ok.sl ek) q1 q4 (by rw[q2,hus]) kx ky nn (by rw[q3,Nat.mul_comm];simp only[roomy]at h2';omega) h63 (eC _);have hflat:=gX zv.cells (by rw[hzsz];exact hu) nn;rw[hzsz]at hflat;have hl:b9 (Rep S w ie.u) (List.replicate nn z) (madeCells zv.cells (nn*ie.u.n)).toList:=by rw[hflat];exact hH hrz nn
         obtain⟨hm,hlat⟩:=m.m.newRow none (by simp) (dst:=Oper.name o) hf hgl (w':=w') hgrow hu (v:=.slice (some ⟨w.heap.size,0,none⟩) nn nn) (e:=e') (l:=List.replicate nn z) (by simpa using hown) hl (λg hg=>.inr (fM (ig.1 hg).symm));refine⟨_,_,_,S,.slice (some ⟨w.heap.size,0,none⟩) nn nn,w',h,.inl ?_,hm,rfl,hlat,by show(upd st.h _ _ _).live=true;rw[aj];rfl,by rw[aj];rfl,⟨_,_,_,rfl⟩⟩;simp only[execOp,ho,hx,hy,Sem.run_bind,hr,Result.andThen_ok];rfl
       . cases h
     . cases h
   . cases h
 . cases h
theorem n5 {isMax:Bool}:∀{vs:List V}{xs:List Value}{c c':C}{x:Value},aW (bB S w φ st.h) vs xs->aQ S w φ st.h c x->jC isMax c vs=some c'->
    ∃v,(xs.foldlM (bif isMax then Builtin.max2 else Builtin.min2) x).run P w=.ok v w/\aQ S w φ st.h c' v
 |[],[],c,c',x,_,hc,h=>by simp[jC]at h;subst h;exact⟨x,by simp,hc⟩
 |v::vs,y::xs,c,c',x,ha,hc,h=>by
  obtain⟨hv,ha⟩:=ha
  cases c with
  |int k n=>cases v with
   |v z=>cases z with
    |c z=>cases z with
     |int k' n'=>
      simp only[jC]at h;split at h
      . rename_i q;subst q;have hx:x=.int k' n:=hc;have hy:y=.int k' n':=hv;subst hx;subst hy
        cases isMax with
        |true=>
         simp only[ab]at h⊢;obtain⟨v,h1,h2⟩:=n5 (isMax:=true) (c:=.int k' (bif decide (n'>n)then n' else n)) (x:=.int k' (bif decide (n'>n)then n' else n)) ha rfl h;simp only[ab]at h1;refine⟨v,?_,h2⟩;have:Builtin.max2 (.int k' n) (.int k' n')=pure (.int k' (bif decide (n'>n)then n' else n)):=by simp only[Builtin.max2];by_cases hq:n'>n<;>simp[hq]
         rw[List.foldlM_cons,this];simpa using h1
        |false=>
         simp only[ac]at h⊢;obtain⟨v,h1,h2⟩:=n5 (isMax:=false) (c:=.int k' (bif decide (n'<n)then n' else n)) (x:=.int k' (bif decide (n'<n)then n' else n)) ha rfl h;simp only[ac]at h1;refine⟨v,?_,h2⟩;have:Builtin.min2 (.int k' n) (.int k' n')=pure (.int k' (bif decide (n'<n)then n' else n)):=by simp only[Builtin.min2];by_cases hq:n'<n<;>simp[hq]
         rw[List.foldlM_cons,this];simpa using h1
      . cases h
     |_=>simp[jC]at h
    |agg ys=>simp[jC]at h
   |_=>simp[jC]at h
  |_=>simp[jC]at h
 |[],_::_,_,_,_,ha,_,_=>ha.elim
 |_::_,[],_,_,_,ha,_,_=>ha.elim
theorem fz {t e ty:TypeId}(h:P.underlying t=some (.slice e))(A:Option Addr)(n c:Nat):(Builtin.len_ #[t] ty #[.slice A n c]).run P w=.ok (.int .i64 n) w:=by rw[run_len_slice w t ty A n c (by rw[zk h];exact h)];rfl
theorem KS {cfg:Cfg}(hT:cg P cfg.tt)(m:bA cx nt φ S st a w){c:C}{v:Value}{t:TypeId}(ty:TypeId){i:TI}(ht:cfg.ty t=some i)(hc:aQ S w φ st.h c v){n:Int}(h:lenOf st i c=some n):
    (Builtin.len_ #[t] ty #[v]).run P w=.ok (.int .i64 n) w:=by
 have ok:=hT t i ht;unfold lenOf at h;split at h
 . rename_i e u l ek;injection h with h;subst h;obtain⟨A,cap,cs,hv,_⟩:=hc;injection hv with hv _;subst hv;exact fz (ok.sl ek) A _ _
 . rename_i e u l ek;injection h with h;subst h;obtain⟨⟨A,cap,cs,hv,_⟩,_⟩:=hc;injection hv with hv _;subst hv;exact fz (ok.sl ek) A _ _
 . rename_i e ek;injection h with h;subst h;have hv:v=.slice none 0 0:=hc;subst hv;exact fz (ok.sl ek) none 0 0
 . rename_i s ek;injection h with h;subst h;have hv:v=.string s:=hc;subst hv;simp[Builtin.len_,run_underlying (ok.str ek)];rfl
 . rename_i e k ek;obtain⟨_,hv,_⟩:=hc;have hk:=m.m.b k;split at h
   . rename_i e' u l eh;injection h with h;subst h;rw[eh]at hk;obtain⟨_,flat,ho,_⟩:=hk;subst hv;rcases ho.2 with⟨h0,hz⟩|⟨g,cap,cur,h0,_⟩
     . rw[h0,hz];exact fz (ok.sl ek) none 0 0
     . rw[h0];exact fz (ok.sl ek) _ _ _
   . rename_i e' u l eh;injection h with h;subst h;rw[eh]at hk;obtain⟨_,flat,cap,_,_,hvv⟩:=hk;subst hv;rcases hvv with⟨h0,hz⟩|⟨g,h0,_⟩
     . rw[h0,hz];exact fz (ok.sl ek) none 0 0
     . rw[h0];exact fz (ok.sl ek) _ _ _
   . rename_i e' q l eh;injection h with h;subst h;rw[eh]at hk;obtain⟨s,F,hφ,⟨flat,F',_,ho,_⟩,_⟩:=hk;rw[hφ.1]at hv;subst hv;rcases ho.2 with⟨h0,hz⟩|⟨g,cap,cur,h0,_⟩
     . rw[h0,hz];exact fz (ok.sl ek) none 0 0
     . rw[h0];exact fz (ok.sl ek) _ _ _
   . rename_i e' q l qi qc eh;injection h with h;subst h;rw[eh]at hk;obtain⟨_,g,cap,h0⟩:=AZ hk;rw[hv,h0];exact fz (ok.sl ek) _ _ _
   . cases h
 . rename_i e k j sz ek;obtain⟨_,A,L,cp,hφ,hi,hv⟩:=hc;have hk:=m.m.b k;split at h
   . rename_i e' u l eh;injection h with h;subst h;rw[eh]at hk;obtain⟨_,flat,ho,_⟩:=hk
     have hL:L=l.length:=by
      rcases ho.2 with⟨h0,hz⟩|⟨g,cap,cur,h0,_⟩
      . rw[h0]at hφ;injection hφ with _ e2 _;omega
      . rw[h0]at hφ;injection hφ with _ e2 _;exact e2.symm
     subst hL;subst hv;exact fz (ok.sl ek) _ _ _
   . cases h
 . cases h
theorem Pk {cfg:Cfg}(hT:cg P cfg.tt)(m:bA cx nt φ S st a w){o:Oper}{c:Call}(ho:o.op=.call c)(hb:c.callee=.builtin .len){κ:V->St->Option ρ}{r:ρ}(h:aS cfg st o κ=some r):aU P cx φ S st a w o κ r:=by
 obtain⟨callee,args,argTypes⟩:=c;simp only at hb;subst hb;simp only[aS,ho]at h;split at h
 . rename_i x t e1 e2
   cases hargs:args.toList with
   |nil=>rw[hargs]at e1;cases e1
   |cons y r=>cases r with
    |cons=>rw[hargs]at e1;injection e1 with _ e1;cases e1
    |nil=>
     rw[hargs]at e1;injection e1 with e1 _;have hA:args= #[y]:=by cases args;simp_all
     have hTy:argTypes= #[t]:=by cases argTypes;simp_all
     subst hA;subst hTy;split at h
     . rename_i i ei;split at h
       . rename_i n en;have hc:aQ S w φ st.h x (a.eval y):=bO m e1;have:=KS hT m o.type ei hc en;refine aU.pure (v':=.int .i64 n) m h ?_ rfl;simp[execOp,ho,resolve,invoke,builtin,this]
       . cases h
     . cases h
 . cases h
theorem Pj {cfg:Cfg}(hT:cg P cfg.tt)(m:bA cx nt φ S st a w){o:Oper}{c:Call}(ho:o.op=.call c)(hb:c.callee=.builtin .cap){κ:V->St->Option ρ}{r:ρ}(h:aS cfg st o κ=some r):aU P cx φ S st a w o κ r:=by
 obtain⟨callee,args,argTypes⟩:=c;simp only at hb;subst hb;simp only[aS,ho]at h;split at h
 . rename_i t e1 e2
   cases hargs:args.toList with
   |nil=>rw[hargs]at e1;cases e1
   |cons y r=>cases r with
    |cons=>rw[hargs]at e1;injection e1 with _ e1;cases e1
    |nil=>
     rw[hargs]at e1;injection e1 with e1 _;have hA:args= #[y]:=by cases args;simp_all
     have hTy:argTypes= #[t]:=by cases argTypes;simp_all
     subst hA;subst hTy;split at h
     . rename_i i ei;split at h
       . rename_i e ek;have hc:a.eval y=.slice none 0 0:=bO m e1;have hu:=(hT t i ei).sl ek;refine aU.pure (v':=.int .i64 0) m h ?_ rfl;simp[execOp,ho,resolve,invoke,builtin,Builtin.cap_,hc,run_underlying hu,goInt,Result.andThen]
       . cases h
     . cases h
 . cases h
theorem LU {t e ty:TypeId}(hu:P.underlying t=some (.slice e)){z:Value}(hz:(zeroValue e).run P w=.ok z w)(hz0:0<z.cells.size)(h1:∀v∈z.cells.toList,v.oneCell'=true){g o n c:Nat}{cur:Array Value}{t0:TypeId}
    (hg:w.heap[g]? =some (.cells cur t0 (0,0))) (hfit:o+n*z.cells.size≤cur.size) (hn:0<n):
    (Builtin.clear_ #[t] ty #[.slice (some ⟨g,o,none⟩) n c]).run P w=.ok (.tuple #[]) (w.setRow g (cur.toList.take o++(List.replicate n z.cells.toList).flatten++cur.toList.drop (o+n*z.cells.size)).toArray):=by
 have e1:(Builtin.zeroCells z.cells n).toList=(List.replicate n z.cells.toList).flatten:=gX z.cells hz0 n;have e2:(List.replicate n z.cells.toList).flatten.length=n*z.cells.size:=by simp
 have hst:=run_storeCells_at P g o t0 (List.replicate n z.cells.toList).flatten 0 cur w hg (by rw[e2];omega) (λv hv=>by
  obtain⟨l,hl,hv⟩:=List.mem_flatten.1 hv;rw[List.eq_of_mem_replicate hl]at hv
  exact h1 v hv)
 rw[e2,Nat.add_zero,<-e1]at hst;obtain⟨k,rfl⟩:∃k,n=k+1:=⟨n-1,by omega⟩;rw[e1]at hst;simp[Builtin.clear_,run_underlying hu,hz,e1];rw[bL]at hst;simp[hst]
theorem Kp {t e ty:TypeId}(hu:P.underlying t=some (.slice e))(A:Option Addr)(c:Nat):(Builtin.clear_ #[t] ty #[.slice A 0 c]).run P w=.ok (.tuple #[]) w:=by
 cases A<;>simp[Builtin.clear_,run_underlying hu]
theorem Fy {cfg:Cfg}(hT:cg P cfg.tt){t:TypeId}{i:TI}(ok:dm P t i)(ty:TypeId)(m:aY cx φ S st.h w){x:C}{xv:Value}(hx:aQ S w φ st.h x xv){κ:V->St->Option ρ}{r:ρ}(h:gT cfg st i x κ=some r):
    ∃v st' φ' S' v' w',κ v st'=some r/\(Builtin.clear_ #[t] ty #[xv]).run P w=.ok v' w'/\aY cx φ' S' st'.h w'/\st'.t=st.t/\bE S S' w w' φ φ' st.h st'.h/\bB S' w' φ' st'.h v v':=by
 unfold gT at h;split at h
 . rename_i e n j sz ek;obtain⟨hlive,A,L,cp,hφ,hi,hv⟩:=hx;have hn:=m.b n;split at h
   . rename_i ie e0 u l hie eh;rw[eh]at hn;split at h
     . rename_i hb hue hz;have:=aR hb;subst this;split at hue
       . rename_i hue';split at h
         . rename_i z hzd;have oke:=hT e ie hie;obtain⟨zv,hzr,hza,hzs⟩:=xe oke (aR hz) S w φ st.h;have hzrep:Rep S w u z zv.cells.toList:=ef m.b (λ_ h=>h) hza hzd λk hk _=>by rw[nH oke (aR hz)]at hk;cases hk
           have hzlen:zv.cells.size=u.n:=by rw[<-hzrep.length,cX]
           obtain⟨hun,flat,ho,hfl,hok⟩:=hn;have hu:=ok.sl ek;by_cases hlt:j<l.length
           . rcases ho.2 with⟨h0,h1⟩|⟨g,cap,cur,hφ',_,hh,hcl,hcm,hcs,htk⟩
             . omega
             . rw[hφ']at hφ;injection hφ with e1 e2 e3;subst e1;subst e2;subst e3;rw[ae (show ¬cap=j by omega)]at hv;have hv:xv=.slice (some ⟨g,j*u.n,none⟩) (l.length-j) (cap-j):=by rw[hv];simp[c8]
               subst hv;have hle:l.length*u.n≤cur.size:=by rw[hcs];exact uR _ hcl
               have hjn:j*u.n+(l.length-j)*u.n=l.length*u.n:=by rw[<-kM];congr 1;omega
               have hrun:=LU (P:=P) (w:=w) (ty:=ty) hu hzr (by omega) hzrep.one hh (o:=j*u.n) (n:=l.length-j) (c:=cap-j) (by rw[hzlen];omega) (by omega);rw[hzlen,hjn]at hrun;generalize hnew:(cur.toList.take (j*u.n)++(List.replicate (l.length-j) zv.cells.toList).flatten++cur.toList.drop (l.length*u.n)).toArray=nv at hrun;have hnv:nv.toList=cur.toList.take (j*u.n)++(List.replicate (l.length-j) zv.cells.toList).flatten++cur.toList.drop (l.length*u.n):=by rw[<-hnew]
               have hsplit:b9 (Rep S w u) (l.take j++l.drop j) flat:=by rw[gJ];exact hfl
               obtain⟨f1,f2,rfl,r1,r2⟩:=hsplit.split;have hf1:f1.length=j*u.n:=by rw[r1.length,da,jN (by omega)]
               have htk1:cur.toList.take (j*u.n)=f1:=by
                have h6:(cur.toList.take (l.length*u.n)).take (j*u.n)=f1:=by rw[htk,<-hf1,lC]
                rw[List.take_take,jN (by omega)]at h6;exact h6
               rw[htk1]at hnv;have hfill:(List.replicate (l.length-j) zv.cells.toList).flatten.length=(l.length-j)*u.n:=by simp[hzlen]
               obtain⟨g1,g2,g3,g4,g5⟩:=lv w g nv;have hmut:(st.h n).mut=true:=by rw[eh];rfl
               have hbk:Bk (φ n) g:=by rw[hφ'];exact ig.2 rfl
               have hkeep:∀g',g'<w.heap.size->(∀n',some n=some n'->¬Bk (φ n') g')->(w.setRow g nv).heap[g']? =w.heap[g']? :=λg' _ hne=>g5 g' λeg=>hne n rfl (by rw[eg];exact hbk)
               have hlat:=bE.ec m (w':=w.setRow g nv) (some n) (λk hk=>by cases hk;exact hmut) hkeep n (.row e0 u (hZ l j z)) (φ n) rfl (.inl ⟨rfl,rfl⟩);have hkS:∀g',S g'->(w.setRow g nv).heap[g']? =w.heap[g']? :=hlat.k;have hlen':(hZ l j z).length=l.length:=by simp[hZ];omega
               have hm':=m.change (w':=w.setRow g nv) g1 g2 g3 (fM g4.symm) (some n) (λk hk=>by cases hk;exact hmut) hkeep n (.row e0 u (hZ l j z)) (φ n) rfl (.inl ⟨rfl,rfl⟩)
                (λg' hg=>.inl ⟨n,rfl,hg⟩) (λh' hh'=>by
                 refine⟨hun,f1++(List.replicate (l.length-j) zv.cells.toList).flatten,⟨?_,.inr ⟨g,cap,nv,?_,eC _,setRow_heap w g cur nv e0 (0,0) hh,?_,hcm,?_,?_⟩⟩,?_,hok⟩
                 . rw[aV,hfill,hf1,hlen'];exact hjn
                 . rw[hφ',hlen']
                 . rw[hlen'];exact hcl
                 . have e4:nv.size=cur.size:=by have e5:=congrArg List.length hnv;simp only[aV,hfill,hf1,cX,eV]at e5;omega
                   rw[e4,hcs]
                 . rw[hnv,hlen'];have:(f1++(List.replicate (l.length-j) zv.cells.toList).flatten).length=l.length*u.n:=by rw[aV,hfill,hf1];exact hjn
                   rw[<-this];exact lC
                 . have hmono:∀(q:El u)(vs:List Value),Rep S w u q vs->Rep S (w.setRow g nv) u q vs:=λq vs hq=>Rep.mono (λ_ h=>h) hkS hq
                   exact(r1.mono hmono).append ((hH hzrep _).mono hmono))
               rw[show giveUp st.h (some n)=upd st.h n .gone from rfl,iI,kg]at hm' hlat;exact⟨_,_,φ,S,.tuple #[],_,h,hrun,hm',rfl,hlat, #[],rfl,trivial⟩
           . have hjl:j=l.length:=by
              have:L=l.length:=by
               rcases ho.2 with⟨h0,hz⟩|⟨g,cap,cur,h0,_⟩
               . rw[h0]at hφ;injection hφ with _ e2 _;omega
               . rw[h0]at hφ;injection hφ with _ e2 _;exact e2.symm
              omega
             have hL:L-j=0:=by
              have:L=l.length:=by
               rcases ho.2 with⟨h0,hz⟩|⟨g,cap,cur,h0,_⟩
               . rw[h0]at hφ;injection hφ with _ e2 _;omega
               . rw[h0]at hφ;injection hφ with _ e2 _;exact e2.symm
              omega
             have hsame:upd st.h n (.row e0 u (hZ l j z))=st.h:=by
              have:hZ l j z=l:=by subst hjl;simp[hZ]
              rw[this,<-eh];exact kg _ _
             rw[hsame]at h;refine⟨_,_,φ,S,.tuple #[],w,h,?_,m,rfl,bE.refl _ _ _ _, #[],rfl,trivial⟩;rw[hv,hL];exact Kp hu _ _
         . cases h
       . cases hue
     . cases h
   . cases h
 . cases h
theorem JW {cfg:Cfg}(hT:cg P cfg.tt)(m:bA cx nt φ S st a w){o:Oper}{c:Call}(ho:o.op=.call c)(hb:c.callee=.builtin .clear){κ:V->St->Option ρ}{r:ρ}(h:aS cfg st o κ=some r):aU P cx φ S st a w o κ r:=by
 obtain⟨callee,args,argTypes⟩:=c;simp only at hb;subst hb;simp only[aS,ho]at h;split at h
 . rename_i x t e1 e2
   cases hargs:args.toList with
   |nil=>rw[hargs]at e1;cases e1
   |cons y r=>cases r with
    |cons=>rw[hargs]at e1;injection e1 with _ e1;cases e1
    |nil=>
     rw[hargs]at e1;injection e1 with e1 _;have hA:args= #[y]:=by cases args;simp_all
     have hTy:argTypes= #[t]:=by cases argTypes;simp_all
     subst hA;subst hTy;split at h
     . rename_i i ei;have hc:aQ S w φ st.h x (a.eval y):=bO m e1;obtain⟨v,st',φ',S',v',w',k1,k2,k3,k4,k5,k6⟩:=Fy hT (hT t i ei) o.type m.m hc h;exact⟨v,st',φ',S',v',w',k1,.inl (by simp[execOp,ho,resolve,invoke,builtin,k2]),k3,k4,k5,k6⟩
     . cases h
 . cases h
theorem yy {t t' ty e:TypeId}{i:TypeInfo}{z:Value}(ht:P.underlying t=some (.slice e))(ht':P.underlying t'=some (.int .i64))(hi:P.info? e=some i)(hz:i.zero=some z)(hs:0<i.size)(hb:0<i.bytes)(kx:IntKind)(n:Nat)(h48:n*i.bytes≤roomy):
    ∃v' w',(Builtin.append_ #[t,t'] ty #[.slice none 0 0,.int kx n]).run P w=.ok v' w'/\w.grownBy w' none/\(∃A l c,v'=.slice A l c)/\
     (z.cells.size=i.size->w'.ownsRow 0 e i.size v' n (Builtin.zeroCells z.cells n).toList)/\∀g,blk v'=some g->w.heap.size≤g:=by
 have h63:n≤140737488351232:=o6 (pR _ hb) h48;have hw:IntKind.i64.wrap (n:Int)=n:=by rw[IntKind.wrap_i64];omega
 have h0':¬((n:Int)<0):=by omega
 have h48':¬(281474976710656<(n:Int)*(i.bytes:Int)):=by have:((n*i.bytes:Nat):Int)≤(roomy:Int):=Int.ofNat_le.2 h48;rw[Int.natCast_mul]at this;simp only[roomy]at this;omega
 by_cases hn:n=0
 . subst hn;have h9:¬((281474976710656:Int)<0):=by omega
   refine⟨.slice none 0 0,w,?_,⟨rfl,rfl,rfl,aM _,λ_ _ _=>rfl⟩,⟨_,_,_,rfl⟩,λ_=>by simpa[Builtin.zeroCells]using World.ownsRow_nil w 0 e i.size,λg hg=>by cases hg⟩;simp[Builtin.append_,run_underlying ht,run_underlying ht',sizeOf,typeInfo,hi,asInt,asIntOf,IntKind.wrap_i64]
 . have hp:0<n:=by omega
   have h63':¬(9223372036854775807<(n:Int)):=by omega
   have hns:¬(n*i.size=0):=by have:=Nat.mul_pos hp hs;omega
   have hnx:¬(281474976710656<Builtin.nextslicecap n 0*i.bytes):=by rw[nextslicecap_zero hp];simp only[roomy]at h48;omega
   have hge:=grownCap_ge w n 0 e;have hcm:grownCap w n 0 e≤maxLen:=grownCap_le_maxLen w n 0 e (by simp only[maxLen];omega);refine⟨.slice (some ⟨w.heap.size,0,none⟩) n (grownCap w n 0 e),w.drew.alloc (.cells (Builtin.zeroCells z.cells n++Builtin.zeroCells z.cells (grownCap w n 0 e-n)) e),?_,⟨rfl,rfl,rfl,by simp,λk hk _=>heap_alloc_old w.drew _ k hk⟩,⟨_,_,_,rfl⟩,λhzs=> ?_,λg hg=> ?_⟩
   . simp[Builtin.append_,run_underlying ht,run_underlying ht',sizeOf,typeInfo,zeroValue,hi,hz,asInt,asIntOf,hw,h0',h48',hn,hns,h63',hnx,Question.forced,Go.newRow,grownCap,run_firstCells_none]
   . refine⟨by simp[size_zeroCells,hzs],.inr ⟨w.heap.size,_,_,rfl,eC _,heap_alloc_new w.drew _,hge,hcm,?_,?_⟩⟩
     . simp only[Array.size_append,size_zeroCells,hzs,<-kM]
       congr 1;omega
     . have hl:(Builtin.zeroCells z.cells n).toList.length=n*i.size:=by simp[size_zeroCells,hzs]
       simp only[Array.toList_append];rw[<-hl];exact lC
   . injection hg with hg;exact fM hg
theorem wF {cfg:Cfg}(hT:cg P cfg.tt){t t':TypeId}{i:TI}(ok:dm P t i)(ty:TypeId)(m:aY cx φ S st.h w){s x:C}{vs vx:Value}
    (hs:aQ S w φ st.h s vs) (hx:aQ S w φ st.h x vx) {dst:Nat} {κ:V->St->Option ρ} {r:ρ} (hl:dW cfg st dst t' i s x κ=some r):
    ∃v st' φ' S' v' w',κ v st'=some r/\(Builtin.append_ #[t,t'] ty #[vs,vx]).run P w=.ok v' w'/\aY cx φ' S' st'.h w'/\st'.t=st.t/\bE S S' w w' φ φ' st.h st'.h/\bB S' w' φ' st'.h v v':=by
 unfold dW at hl;split at hl
 case h_2=>cases hl
 rename_i k n e it ek et;split at hl
 case h_2=>cases hl
 rename_i ie eik ee;split at hl
 case h_2=>cases hl
 rename_i z ez;obtain⟨h1,h2,hl⟩:=lJ hl;obtain⟨hu,hf,hgl,hl⟩:=fT hl;have hs:vs=.slice none 0 0:=hs;have hx:vx=.int k n:=hx;subst hs;subst hx;have oke:=hT e ie ee;obtain⟨hus,hbp⟩:=oke.u hu;have hz0:ie.zero.length=ie.size:=by rw[kY ez,hus]
 obtain⟨inf,zv,q1,q2,q3,q4,q5,q6⟩:=oke.info;have hz:=cL (S:=S) (w:=w) (φ:=φ) (h:=st.h) (q6 hz0);have hrz:Rep S w ie.u z zv.cells.toList:=ef m.b (λ_ h=>h) hz ez (by rw[nH oke hz0];simp);have hzsz:zv.cells.size=ie.u.n:=by rw[q5,hus]
 obtain⟨nn,rfl⟩:∃nn:Nat,n=nn:=⟨n.toNat,(se h1).symm⟩
 have h2':nn*ie.bytes≤roomy:=by
  have:((nn*ie.bytes:Nat):Int)≤(roomy:Int):=by rw[Int.natCast_mul];exact h2
  exact Int.ofNat_le.1 this
 obtain⟨v',w',hr,hgrow,hsl,hown,hnew⟩:=yy (P:=P) (w:=w) (ty:=ty) (ok.sl ek) ((hT t' it et).int eik) q1 q4 (by rw[q2,<-hus];exact hu) (by rw[q3];exact hbp) k nn (by rw[q3];exact h2');have hown:=hown (by rw[q5,q2]);rw[q2,<-hus]at hown;have hflat:(Builtin.zeroCells zv.cells nn).toList=(List.replicate nn zv.cells.toList).flatten:=gX zv.cells (by rw[hzsz];exact hu) nn;have hrep:b9 (Rep S w ie.u) (List.replicate nn z) (Builtin.zeroCells zv.cells nn).toList:=by rw[hflat];exact hH hrz nn
 obtain⟨hm,hlat⟩:=m.newRow none (by simp) (dst:=dst) hf hgl (w':=w') hgrow hu (v:=v') (e:=e) (l:=List.replicate nn z) (by simpa using hown) hrep (λg hg=>.inr (hnew g ((yY hown).1 hg)));refine⟨_,_,_,S,v',w',hl,hr,hm,rfl,hlat,by show(upd st.h _ _ _).live=true;rw[aj];rfl,by rw[aj,pJ hsl],hsl⟩
theorem step_append {cfg:Cfg}(hT:cg P cfg.tt)(m:bA cx nt φ S st a w){o:Oper}{c:Call}(ho:o.op=.call c)(hb:c.callee=.builtin .append){κ:V->St->Option ρ}{r:ρ}(h:aS cfg st o κ=some r):aU P cx φ S st a w o κ r:=by
 obtain⟨callee,args,argTypes⟩:=c;simp only at hb;subst hb;simp only[aS,ho]at h;split at h
 . rename_i s x t t' e1 e2
   cases hargs:args.toList with
   |nil=>rw[hargs]at e1;cases e1
   |cons y r=>cases r with
    |nil=>rw[hargs]at e1;injection e1 with _ e1;cases e1
    |cons z r=>cases r with
     |cons=>rw[hargs]at e1;injection e1 with _ e1;injection e1 with _ e1;cases e1
     |nil=>
      rw[hargs]at e1;injection e1 with e1 e3;injection e3 with e3 _;have hA:args= #[y,z]:=by cases args;simp_all
      have hTy:argTypes= #[t,t']:=by cases argTypes;simp_all
      subst hA;subst hTy;split at h
      . rename_i i ei eb;have eb:=aR eb;subst eb;split at h
        . rename_i el ek;split at h
          . rename_i ie ee;split at h
            . rename_i sh esh;obtain⟨v,st',φ',S',v',w',h1,h2,h3,h4,h5,h6⟩:=xw (hT el ie ee) ((hT t i ei).sl ek) o.type m.m (bO m e1:bB S w φ st.h (.v (.c s)) (a.eval y)) (bO m e3:bB S w φ st.h (.v (.c x)) (a.eval z)) h;exact⟨v,st',φ',S',v',w',h1,.inl (by simp[execOp,ho,resolve,invoke,builtin,h2]),h3,h4,h5,h6⟩
            obtain⟨v,st',φ',S',v',w',h1,h2,h3,h4,h5,h6⟩:=Cz (hT el ie ee) ((hT t i ei).sl ek) o.type m.m (bO m e1:bB S w φ st.h (.v (.c s)) (a.eval y)) (bO m e3:bB S w φ st.h (.v (.c x)) (a.eval z)) h;exact⟨v,st',φ',S',v',w',h1,.inl (by simp[execOp,ho,resolve,invoke,builtin,h2]),h3,h4,h5,h6⟩
          . cases h
        . cases h
      . rename_i i ei eb;obtain⟨v,st',φ',S',v',w',h1,h2,h3,h4,h5,h6⟩:=wF hT (hT t i ei) o.type m.m (bO m e1:bB S w φ st.h (.v (.c s)) (a.eval y)) (bO m e3:bB S w φ st.h (.v (.c x)) (a.eval z)) h;exact⟨v,st',φ',S',v',w',h1,.inl (by simp[execOp,ho,resolve,invoke,builtin,h2]),h3,h4,h5,h6⟩
      . cases h
 . cases h
theorem wx {cfg:Cfg}(m:bA cx nt φ S st a w){o:Oper}{c:Call}(ho:o.op=.call c)(hb:c.callee=.builtin .max\/c.callee=.builtin .min){κ:V->St->Option ρ}{r:ρ}(h:aS cfg st o κ=some r):aU P cx φ S st a w o κ r:=by
 obtain⟨callee,args,argTypes⟩:=c;simp only at hb;have hops:=qk m args.toList;rcases hb with hb|hb
 . subst hb;simp only[aS,ho]at h;split at h
   . rename_i x r' e1;rw[e1]at hops;split at h
     . rename_i c' e2
       cases hargs:args.toList.map a.eval with
       |nil=>rw[hargs]at hops;exact hops.elim
       |cons y ys=>
        rw[hargs]at hops;obtain⟨v,h1,h2⟩:=n5 (P:=P) (w:=w) hops.2 (show aQ S w φ st.h x y from hops.1) e2;refine aU.pure m h ?_ h2;have e4:(args.map a.eval).toList=y::ys:=by rw[oX];exact hargs
        simp only[ab]at h1;simp[execOp,ho,resolve,invoke,builtin,Builtin.max_,hargs,h1]
     . cases h
   . cases h
 . subst hb;simp only[aS,ho]at h;split at h
   . rename_i x r' e1;rw[e1]at hops;split at h
     . rename_i c' e2
       cases hargs:args.toList.map a.eval with
       |nil=>rw[hargs]at hops;exact hops.elim
       |cons y ys=>
        rw[hargs]at hops;obtain⟨v,h1,h2⟩:=n5 (P:=P) (w:=w) hops.2 (show aQ S w φ st.h x y from hops.1) e2;refine aU.pure m h ?_ h2;have e4:(args.map a.eval).toList=y::ys:=by rw[oX];exact hargs
        simp only[ac]at h1;simp[execOp,ho,resolve,invoke,builtin,Builtin.min_,hargs,h1]
     . cases h
   . cases h
theorem KI {cfg:Cfg}(hT:cg P cfg.tt)(m:bA cx nt φ S st a w)(o:Oper)(hcall:∀c f,o.op=.call c->c.callee≠ .value f){κ:V->St->Option ρ}{r:ρ}(h:aS cfg st o κ=some r):aU P cx φ S st a w o κ r:=by
 cases ho:o.op with
 |move x=>exact Bu m (.inl ho) h
 |assign x=>exact Bu m (.inr ho) h
 |pick c x y=>exact L8 m ho h
 |alloc t=>exact JU hT m ho h
 |box t x=>exact Ph hT m ho h
 |build t parts=>exact JV hT m ho h
 |buildSlice t len parts=>exact yF hT m ho h
 |load t x=>exact L6 hT m ho h
 |store t x y=>exact J0 hT m ho h
 |nilCheck x=>exact BU m ho h
 |binOp op t x y t'=>exact Pg hT m ho h
 |unOp op t x=>exact TL m ho h
 |convert s d x=>exact Ff hT m ho h
 |fieldAddr t x f=>exact zN hT m ho h
 |field t x f=>exact JX hT m ho h
 |indexAddr t x i=>exact zO hT m ho h
 |index t x i=>exact JY hT m ho h
 |slice t x lo hi mx=>cases mx with
  |none=>exact JZ hT m ho h
  |some y=>simp[aS,ho]at h
 |extract x i=>exact Fg m ho h
 |makeFunc f first captured=>cases f with
  |func f=>exact BR m ho h
  |_=>simp[aS,ho]at h
 |makeSlice t x y=>exact zP hT m ho h
 |makeMap t x=>cases x with
  |none=>exact Fh hT m ho h
  |some y=>simp[aS,ho]at h
 |lookup t x y cm=>exact FZ hT m ho h
 |mapUpdate t x y z=>exact zQ hT m ho h
 |mapEntry t x y=>exact BS hT m ho h
 |entryStore t x y z=>exact yG hT m ho h
 |call c=>cases hc:c.callee with
  |value f=>exact absurd hc (hcall c f ho)
  |invoke x n=>simp[aS,ho,hc]at h
  |builtin b=>cases b with
   |len=>exact Pk hT m ho hc h
   |append=>exact step_append hT m ho hc h
   |cap=>exact Pj hT m ho hc h
   |max=>exact wx m ho (.inl hc) h
   |min=>exact wx m ho (.inr hc) h
   |clear=>exact JW hT m ho hc h
   |_=>simp[aS,ho,hc]at h
 |_=>simp[aS,ho]at h
end
end Go.Proofs.YtlkkaielmdlefaaGreatDoor.R1
namespace Go.Proofs.YtlkkaielmdlefaaGreatDoor.R1
variable {P : Program}
theorem cV.{u}{α:Type u}:∀{l:List (Nat×α)}{n:Nat}{x:α},assoc l n=some x->(n,x)∈l
 |[],_,_,h=>by cases h
 |(i,y)::l,n,x,h=>by
  simp only[assoc]at h
  cases e:Nat.beq i n with
  |true=>rw[e]at h;injection h with h;subst h;rw[aR e];simp
  |false=>rw[e]at h;exact bk _ (cV h)
theorem any_beq {l:List Nat}{n:Nat}:(l.any (Nat.beq n))=true↔n∈l:=by
 rw[oW];constructor
 . rintro⟨x,hx,h⟩;rw[aR h];exact hx
 . intro h;exact⟨n,h,jj n⟩
theorem nN {n:Nat}{l:List Nat}(h:distinct (n::l)=true):n∉l/\distinct l=true:=by simp only[distinct,aH,ji]at h;refine⟨λhm=> ?_,h.2⟩;rw[any_beq.2 hm]at h;exact absurd h.1 (by simp)
theorem cM.{u}{α:Type u}:∀{l:List (Nat×α)}{n:Nat}{x:α},distinct (l.map (·.1))=true->(n,x)∈l->assoc l n=some x
 |[],_,_,_,h=>by cases h
 |(i,y)::l,n,x,hd,h=>by
  obtain⟨h1,h2⟩:=nN hd;simp only[assoc];rcases aG.1 h with h|h
  . injection h with ha hb;subst ha;subst hb;simp
  . have:i≠n:=by rintro rfl;exact h1 (eZ.2 ⟨_,h,rfl⟩)
    have:Nat.beq i n=false:=by cases e:Nat.beq i n with
     |true=>exact absurd (aR e) this
     |false=>rfl
    rw[this];exact cM h2 h
theorem eG :∀{l:List (Nat×Option Nat)}{m:Nat},m∈bP l↔∃n,(n,some m)∈l
 |[],m=>by simp[bP]
 |(i,some k)::l,m=>by
  rw[bP,aG,eG];constructor
  . rintro(rfl|⟨n,h⟩)
    . exact⟨i,by simp⟩
    . exact⟨n,bk _ h⟩
  . rintro⟨n,h⟩;rcases aG.1 h with h|h
    . injection h with _ h;injection h with h;exact .inl h
    . exact .inr ⟨n,h⟩
 |(i,none)::l,m=>by
  rw[bP,eG];constructor
  . rintro⟨n,h⟩;exact⟨n,bk _ h⟩
  . rintro⟨n,h⟩;rcases aG.1 h with h|h
    . injection h with _ h;cases h
    . exact⟨n,h⟩
theorem Ft :∀{l:List (Nat×Option Nat)}{n k m:Nat},distinct (bP l)=true->(n,some m)∈l->(k,some m)∈l->n=k:=by
 intro l
 induction l with
 |nil=>intro n k m _ h1;cases h1
 |cons p l ih=>
  intro n k m hd h1 h2;obtain⟨i,x⟩:=p
  cases x with
  |none=>
   rcases aG.1 h1 with h|h1
   . injection h with _ h;cases h
   . rcases aG.1 h2 with h|h2
     . injection h with _ h;cases h
     . exact ih hd h1 h2
  |some z=>
   obtain⟨ha,hb⟩:=nN hd;rcases aG.1 h1 with e|g1
   . rcases aG.1 h2 with e'|g2
     . injection e with e1 _;injection e' with e2 _;exact e1.trans e2.symm
     . injection e with _ e;injection e with e;subst e;exact absurd (eG.2 ⟨k,g2⟩) ha
   . rcases aG.1 h2 with e'|g2
     . injection e' with _ e;injection e with e;subst e;exact absurd (eG.2 ⟨n,g1⟩) ha
     . exact ih hb g1 g2
structure Rd where
 S:Nat->Prop
 S':Nat->Prop
 w:World
 φ:Nat->Value
 φ':Nat->Value
 h:Nat->B
 h':Nat->B
 ok:Nat->Prop
 M:List (Nat×Option Nat)
 Z:List Nat
structure Rd.Ok (q:Rd):Prop where
 b:∀n,ci q.S q.w q.φ q.h q.ok (q.φ n) (q.h n)
 s:∀g,q.S g->q.S' g
 frz:∀m∈q.Z,(q.h m).mut=true->∀g,Bk (q.φ m) g->q.S' g
 dist:distinct (q.M.map (·.1))=true
 live:∀p∈q.M,(q.h' p.1).live=true
 some:∀n m,(n,Option.some m)∈q.M->q.φ' n=q.φ m
 none:∀n,(n,Option.none)∈q.M->q.φ' n=.slice Option.none 0 0
 aB:∀n,bH n=true->(q.h n).live=true->(q.h' n).live=true/\q.φ' n=q.φ n
 noglob:∀p∈q.M,bH p.1=false
def Rd.fin (q:Rd)(r:Ren):Prop:=(∀p∈r.map,p∈q.M)/\∀z∈r.frz,z∈q.Z
def Ren.le (r r':Ren):Prop:=(∀p∈r.map,p∈r'.map)/\∀z∈r.frz,z∈r'.frz
theorem Ren.le.refl (r:Ren):r.le r:=⟨λ_ h=>h,λ_ h=>h⟩
theorem Ren.le.trans {a b c:Ren}(h:a.le b)(k:b.le c):a.le c:=⟨λp hp=>k.1 p (h.1 p hp),λz hz=>k.2 z (h.2 z hz)⟩
theorem Rd.fin.le {q:Rd}{r r':Ren}(h:q.fin r')(k:r.le r'):q.fin r:=⟨λp hp=>h.1 p (k.1 p hp),λz hz=>h.2 z (k.2 z hz)⟩
theorem jw {q:Rd}(ok:q.Ok){map:List (Nat×Option Nat)}(hm:∀p∈map,p∈q.M){n m:Nat}(h:gO map n m=true)(hl:(q.h m).live=true):(q.h' n).live=true/\q.φ' n=q.φ m:=by
 unfold gO at h;split at h
 . rename_i x e;have:=aR h;subst this;have hp:=hm _ (cV e);exact⟨ok.live _ hp,ok.some _ _ hp⟩
 . cases h
 . rw[aH]at h;have:=aR h.2;subst this;exact ok.aB n h.1 hl
theorem FK {q:Rd}(ok:q.Ok){map:List (Nat×Option Nat)}(hm:∀p∈map,p∈q.M):∀{c c':C}{v:Value},qg map c c'=true->aQ q.S q.w q.φ q.h c' v->aQ q.S' q.w q.φ' q.h' c v:=by
 intro c
 induction c with
 |row n=>
  intro c' v h hr
  cases c' with
  |row m=>obtain⟨hl,hv,hx⟩:=hr;obtain⟨h1,h2⟩:=jw ok hm h hl;exact⟨h1,by rw[h2];exact hv,hx⟩
  |_=>cases h
 |ptr n i sz off=>
  intro c' v h hr
  cases c' with
  |ptr m i' sz' off'=>
   simp only[qg,aH]at h;obtain⟨⟨⟨h0,h1⟩,h2⟩,h3⟩:=h;have:=aR h1;subst this;have:=aR h2;subst this;have:=aR h3;subst this;obtain⟨hl,g,hg,hv⟩:=hr;obtain⟨k1,k2⟩:=jw ok hm h0 hl;exact⟨k1,g,by rw[k2];exact hg,hv⟩
  |_=>cases h
 |nils=>intro c' v h hr;cases c'<;>first|exact hr|cases h
 |nilp=>intro c' v h hr;cases c'<;>first|exact hr|cases h
 |nilf=>intro c' v h hr;cases c'<;>first|exact hr|cases h
 |nilm=>intro c' v h hr;cases c'<;>first|exact hr|cases h
 |fn f=>
  intro c' v h hr
  cases c' with
  |fn g=>have:=aR h;subst this;exact hr
  |_=>cases h
 |cap g c ihg ihc=>
  intro c' v h hr
  cases c' with
  |cap g' c''=>
   simp only[qg,aH]at h;obtain⟨f,cs,x,h1,h2,hv⟩:=hr;exact⟨f,cs,x,ihg h.1 h1,ihc h.2 h2,hv⟩
  |_=>cases h
 |_=>intro c' v h;cases c'<;>cases h
theorem Co {q:Rd}(ok:q.Ok):∀{k:CK}{c:C}{r r':Ren}{x:k.T},k.ext q.h c r=some (x,r')->r.le r'/\(q.fin r'->∀{v:Value},aQ q.S q.w q.φ q.h c v->aQ q.S' q.w q.φ' q.h' (k.mk x) v):=by
 intro k
 induction k with
 |int k=>
  intro c r r' x h;simp only[CK.ext]at h;split at h
  . split at h
    . rename_i e;subst e;injection h with h;injection h with h1 h2;subst h1;subst h2;exact⟨.refl _,λ_ _ hr=>hr⟩
    . cases h
  . cases h
 |bool=>
  intro c r r' x h;simp only[CK.ext]at h;split at h
  . injection h with h;injection h with h1 h2;subst h1;subst h2;exact⟨.refl _,λ_ _ hr=>hr⟩
  . cases h
 |str=>
  intro c r r' x h;simp only[CK.ext]at h;split at h
  . injection h with h;injection h with h1 h2;subst h1;subst h2;exact⟨.refl _,λ_ _ hr=>hr⟩
  . cases h
 |sl u=>
  intro c r r' x h;simp only[CK.ext]at h;split at h
  . rename_i l hl;injection h with h;injection h with h1 h2;subst h1;subst h2;refine⟨?_,λhf v hr=> ?_⟩
    . cases c<;>first|exact .refl _|exact⟨λ_ h=>h,λz hz=>bk _ hz⟩
    . refine ta ok.b ok.s hr hl λn hn hrow g hg=> ?_
      subst hn;exact ok.frz n (hf.2 n (by simp)) (vn hrow) g hg
  . cases h
 |slx u=>
  intro c r r' x h;simp only[CK.ext]at h;split at h
  . split at h
    . rename_i e;subst e;injection h with h;injection h with h1 h2;subst h1;subst h2;exact⟨.refl _,λ_ v hr=>⟨Rep.mono ok.s (λ_ _=>rfl) hr.1,hr.2⟩⟩
    . cases h
  . cases h
 |row n=>
  intro c r r' x h;simp only[CK.ext]at h;split at h
  . rename_i m;injection h with h;injection h with h1 h2;subst h2;refine⟨⟨λp hp=>bk _ hp,λ_ h=>h⟩,λhf v hr=> ?_⟩;have hp:=hf.1 (n,some m) (by simp);obtain⟨_,hv,hx⟩:=hr;exact⟨ok.live _ hp,by rw[ok.some _ _ hp];exact hv,hx⟩
  . injection h with h;injection h with h1 h2;subst h2;refine⟨⟨λp hp=>bk _ hp,λ_ h=>h⟩,λhf v hr=> ?_⟩;have hp:=hf.1 (n,none) (by simp);have hv:v=.slice none 0 0:=hr;exact⟨ok.live _ hp,by rw[ok.none _ hp];exact hv,_,_,_,hv⟩
  . cases h
 |box n=>
  intro c r r' x h;simp only[CK.ext]at h;split at h
  . rename_i m i sz off;split at h
    . injection h with h;injection h with h1 h2;subst h2;refine⟨⟨λp hp=>bk _ hp,λ_ h=>h⟩,λhf v hr=> ?_⟩;have hp:=hf.1 (n,some m) (by simp);obtain⟨_,g,hg,hv⟩:=hr;exact⟨ok.live _ hp,g,by rw[ok.some _ _ hp];exact hg,by simpa using hv⟩
    . cases h
  . cases h
 |tail n sz=>
  intro c r r' x h;simp only[CK.ext]at h;split at h
  . rename_i m i sz'
    cases e:gO r.map n m&&Nat.beq sz' sz with
    |false=>rw[e]at h;cases h
    |true=>rw[e]at h;injection h with h;injection h with h1 h2;subst h1;subst h2;rw[aH]at e;have:=aR e.2;subst this;refine⟨.refl _,λhf v hr=> ?_⟩;obtain⟨hl,A,l,c,hφ,hi,hv⟩:=hr;obtain⟨k1,k2⟩:=jw ok hf.1 e.1 hl;exact⟨k1,A,l,c,by rw[k2];exact hφ,hi,hv⟩
  . cases h
 |tailr n sz=>
  intro c r r' x h;simp only[CK.ext]at h;split at h
  . rename_i m i sz'
    cases e:Nat.beq sz' sz with
    |false=>rw[e]at h;cases h
    |true=>rw[e]at h;injection h with h;injection h with h1 h2;subst h1;subst h2;have:=aR e;subst this;refine⟨⟨λp hp=>bk _ hp,λ_ h=>h⟩,λhf v hr=> ?_⟩;have hp:=hf.1 (n,some m) (by simp);obtain⟨hl,A,l,c,hφ,hi,hv⟩:=hr;exact⟨ok.live _ hp,A,l,c,by rw[ok.some _ _ hp];exact hφ,hi,hv⟩
  . cases h
 |dp u=>
  intro c r r' x h;simp only[CK.ext]at h;split at h
  . rename_i u' y off;split at h
    . split at h
      . rename_i e;subst e;injection h with h;injection h with h1 h2;subst h1;subst h2;refine⟨.refl _,λ_ v hr=> ?_⟩;exact aQ.mono (φ':=q.φ') (h':=q.h') (h:=λ_=>.free) (φ:=q.φ) ok.s (λ_ _=>rfl) (λn hn=>by cases hn) (c:=.dptr u' y 0) hr
      . cases h
    . cases h
  . rename_i m i sz off;split at h
    . rename_i tt cs hm;split at h
      . rename_i y hy;injection h with h;injection h with h1 h2;subst h1;subst h2;refine⟨⟨λ_ h=>h,λz hz=>by simp[hz]⟩,λhf v hr=> ?_⟩;obtain⟨_,g,hg,hv⟩:=hr;have hb:=ok.b m;rw[hm]at hb;obtain⟨g',vals,hφ,hcell,hall,hok⟩:=hb;rw[hφ]at hg;injection hg with hg;subst hg;have hrep:Rep q.S' q.w u y vals.toList:=ef ok.b ok.s hall hy λn hn hrow g2 hg2=>ok.frz n (hf.2 n (by simp[hn])) (vn hrow) g2 hg2
        refine⟨⟨g',0,none⟩,vals.toList,?_,hrep,?_,λ_=>ok.frz m (hf.2 m (by simp)) (by rw[hm];rfl) g' (by rw[hφ];exact ic.2 rfl)⟩
        . rw[hv];simp[Addr.add]
        . intro j w' hj;rw[c8];have:q.w.cell? ⟨g',0+j,none⟩=some w':=by simp only[World.cell?,hcell];simpa using hj
          exact this
      . cases h
    . cases h
  . cases h
 |lit c0=>
  intro c r r' x h;simp only[CK.ext]at h
  cases e:qg r.map c0 c with
  |false=>rw[e]at h;cases h
  |true=>
   rw[e]at h;injection h with h;injection h with h1 h2;subst h2;exact⟨.refl _,λhf v hr=>FK ok hf.1 e hr⟩
 |mapr n=>
  intro c r r' x h;simp only[CK.ext]at h;split at h
  . rename_i b m;injection h with h;injection h with h1 h2;subst h1;subst h2;refine⟨⟨λp hp=>bk _ hp,λ_ h=>h⟩,λhf v hr=> ?_⟩;have hp:=hf.1 (n,some m) (by simp);obtain⟨_,q,h1,h2,h3⟩:=hr;exact⟨ok.live _ hp,q,h1,h2,by rw[ok.some _ _ hp];exact h3⟩
  . injection h with h;injection h with h1 h2;subst h1;subst h2;refine⟨⟨λp hp=>bk _ hp,λ_ h=>h⟩,λhf v hr=> ?_⟩;have hp:=hf.1 (n,none) (by simp);have hv:v=.map none:=hr;exact⟨ok.live _ hp,none,hv,rfl,by rw[ok.none _ hp];rfl⟩
  . cases h
 |mapl n=>
  intro c r r' x h;simp only[CK.ext]at h;split at h
  . rename_i b m
    cases e:gO r.map n m with
    |false=>rw[e]at h;cases h
    |true=>rw[e]at h;injection h with h;injection h with h1 h2;subst h1;subst h2;refine⟨.refl _,λhf v hr=> ?_⟩;obtain⟨hl,q,h1,h2,h3⟩:=hr;obtain⟨k1,k2⟩:=jw ok hf.1 e hl;exact⟨k1,q,h1,h2,by rw[k2];exact h3⟩
  . cases h
 |cap g c ihg ihc=>
  intro c' r r' x h;simp only[CK.ext]at h;split at h
  . rename_i g' c'';split at h
    . rename_i y r1 e1;split at h
      . rename_i z r2 e2;injection h with h;injection h with h1 h2;subst h1;subst h2;obtain⟨l1,k1⟩:=ihg e1;obtain⟨l2,k2⟩:=ihc e2;refine⟨l1.trans l2,λhf v hr=> ?_⟩;obtain⟨f,cs,xx,h1,h2,hv⟩:=hr;exact⟨f,cs,xx,k1 (hf.le l2) h1,k2 hf h2,hv⟩
      . cases h
    . cases h
  . cases h
theorem tD {q:Rd}(ok:q.Ok):∀{ks:List CK}{cs:List C}{r r':Ren}{x:sk ks},iz q.h ks cs r=some (x,r')->r.le r'/\(q.fin r'->∀{vs:List Value},aW (aQ q.S q.w q.φ q.h) cs vs->aW (aQ q.S' q.w q.φ' q.h') (xn ks x) vs)
 |[],cs,r,r',x,h=>by
  simp only[iz]at h;split at h
  . injection h with h;injection h with h1 h2;subst h2;exact⟨.refl _,λ_ vs ha=>by cases vs<;>first|trivial|exact ha.elim⟩
  . cases h
 |k::ks,cs,r,r',x,h=>by
  simp only[iz]at h;split at h
  . rename_i c cs;split at h
    . rename_i y r1 e1;split at h
      . rename_i z r2 e2;injection h with h;injection h with h1 h2;subst h1;subst h2;obtain⟨l1,k1⟩:=Co ok e1;obtain⟨l2,k2⟩:=tD ok e2;refine⟨l1.trans l2,λhf vs ha=> ?_⟩
        cases vs with
        |nil=>exact ha.elim
        |cons v vs=>exact⟨k1 (hf.le l2) ha.1,k2 hf ha.2⟩
      . cases h
    . cases h
  . cases h
theorem Mn {q:Rd}(ok:q.Ok){k:VK}{v:V}{r r':Ren}{x:k.T}(h:k.ext q.h v r=some (x,r')):r.le r'/\(q.fin r'->∀{vv:Value},bB q.S q.w q.φ q.h v vv->gx q.S' q.w q.φ' q.h' (k.mkW x) vv):=by
 cases k with
 |c k=>
  simp only[VK.ext]at h;split at h
  . exact Co ok h
  . cases h
 |agg ks=>
  simp only[VK.ext]at h;split at h
  . obtain⟨l,k⟩:=tD ok h;refine⟨l,λhf vv hr=> ?_⟩;obtain⟨cs,hv,ha⟩:=hr;exact⟨cs,hv,k hf ha⟩
  . cases h
theorem zY {q:Rd}(ok:q.Ok){st:St}(hst:st.h=q.h){tv:Nat->Value}(ht:∀i,bB q.S q.w q.φ q.h (st.t i) (tv i)):∀{ts:List (Nat×VK)}{r r':Ren}{x:nJ ts},iA st ts r=some (x,r')->
    r.le r'/\(q.fin r'->∀i,bB q.S' q.w q.φ' q.h' (gD ts x i) (tv i))
 |[],r,r',x,h=>by
  simp only[iA]at h;injection h with h;injection h with h1 h2;subst h2;exact⟨.refl _,λ_ i=>trivial⟩
 |(n,k)::ts,r,r',x,h=>by
  simp only[iA,hst]at h;split at h
  . rename_i y r1 e1;split at h
    . rename_i z r2 e2;injection h with h;injection h with h1 h2;subst h1;subst h2;obtain⟨l1,k1⟩:=Mn ok e1;obtain⟨l2,k2⟩:=zY ok hst ht e2;refine⟨l1.trans l2,λhf i=> ?_⟩;simp only[gD];by_cases e:i=n
      . subst e;rw[aj];exact k1 (hf.le l2) (ht i)
      . rw[az _ _ e];exact k2 hf i
    . cases h
  . cases h
theorem zX {q:Rd}(ok:q.Ok)(hφ:∀n,(q.h n).live=true->True):∀{bs:List (Nat×BK)}{r r':Ren}{x:jW bs}(base:Nat->B),iy q.h bs r=some (x,r')->
    r.le r'/\(q.fin r'->∀n,(assoc bs n).isSome=true->(∃m,(n,m)∈q.M/\∀m',m=some m'->(q.h m').mut=true)/\ci q.S' q.w q.φ' q.h' q.ok (q.φ' n) (cE base bs x n)/\(cE base bs x n).mut=true)
 |[],r,r',x,base,h=>by
  simp only[iy]at h;injection h with h;injection h with h1 h2;subst h2;exact⟨.refl _,λ_ n hn=>by cases hn⟩
 |(i,k)::bs,r,r',x,base,h=>by
  simp only[iy]at h;split at h
  . rename_i m em;split at h
    . rename_i y r1 e1;split at h
      . rename_i z r2 e2;injection h with h;injection h with h1 h2;subst h1;subst h2;obtain⟨l2,k2⟩:=zX ok hφ base e2
        have l1:r.le r1/\(q.fin r1->(i,m)∈q.M->(∀m',m=some m'->(q.h m').mut=true)/\ci q.S' q.w q.φ' q.h' q.ok (q.φ' i) (k.mk y)/\(k.mk y).mut=true):=by
         cases k with
         |row e u=>
          simp only[BK.ext]at e1;split at e1
          . rename_i m';split at e1
            . rename_i e' u' l eh
              cases hb:Nat.beq e' e with
              |false=>rw[hb]at e1;cases e1
              |true=>
               rw[hb]at e1;simp only[ab]at e1;split at e1
               . rename_i eq;subst eq;have:=aR hb;subst this;injection e1 with e1;injection e1 with h1 h2;subst h1;subst h2;refine⟨.refl _,λhf hm=>⟨λk hk=>(by cases hk;rw[eh];rfl),?_,rfl⟩⟩;have hb:=ok.b m';rw[eh]at hb;rw[ok.some _ _ hm];obtain⟨a1,flat,a2,a3,a4⟩:=hb;exact⟨a1,flat,a2,a3.mono λ_ _ hr=>Rep.mono ok.s (λ_ _=>rfl) hr,a4⟩
               . cases e1
            . cases e1
          . split at e1
            . rename_i hpos;injection e1 with e1;injection e1 with h1 h2;subst h1;subst h2;refine⟨.refl _,λhf hm=>⟨λk hk=>(by cases hk),?_,rfl⟩⟩;rw[ok.none _ hm];exact⟨by rwa[dM]at hpos,[],World.ownsRow_nil _ _ _ _,rfl,λg hg=>by cases hg⟩
            . cases e1
         |box t ks=>
          simp only[BK.ext]at e1;split at e1
          . rename_i m';split at e1
            . rename_i t' cs eh
              cases hb:Nat.beq t' t with
              |false=>rw[hb]at e1;cases e1
              |true=>rw[hb]at e1;simp only[ab]at e1;have:=aR hb;subst this;obtain⟨l,kk⟩:=tD ok e1;refine⟨l,λhf hm=>⟨λk hk=>(by cases hk;rw[eh];rfl),?_,rfl⟩⟩;have hb:=ok.b m';rw[eh]at hb;rw[ok.some _ _ hm];obtain⟨g,vals,a1,a2,a3,a4⟩:=hb;exact⟨g,vals,a1,a2,kk hf a3,a4⟩
            . cases e1
          . cases e1
         |own e o=>
          simp only[BK.ext]at e1;split at e1
          . rename_i m';split at e1
            . rename_i e' o' l eh
              cases hb:Nat.beq e' e with
              |false=>rw[hb]at e1;cases e1
              |true=>
               rw[hb]at e1;simp only[ab]at e1;split at e1
               . rename_i eq;subst eq;have:=aR hb;subst this;injection e1 with e1;injection e1 with h1 h2;subst h1;subst h2;refine⟨.refl _,λhf hm=>⟨λk hk=>(by cases hk;rw[eh];rfl),?_,rfl⟩⟩;have hb:=ok.b m';rw[eh]at hb;rw[ok.some _ _ hm];obtain⟨s,F,a1,a2,a3,a4⟩:=hb;exact⟨s,F,a1,a2.mono (λx vs F hq h=>bC.mono ok.s (λ_ _=>rfl) hq h) (λ_ _=>rfl),a3,a4⟩
               . cases e1
            . cases e1
          . split at e1
            . rename_i hpos;injection e1 with e1;injection e1 with h1 h2;subst h1;subst h2;refine⟨.refl _,λhf hm=>⟨λk hk=>(by cases hk),?_,rfl⟩⟩;rw[ok.none _ hm];exact⟨.slice none 0 0,[],⟨rfl,rfl⟩,⟨[],[],by rwa[dM]at hpos,World.ownsRow_nil _ _ _ _,⟨rfl,rfl⟩,rfl⟩,nG,λg hg=>(by cases hg)⟩
            . cases e1
         |mp t ka va ku vu=>
          simp only[BK.ext]at e1;split at e1
          . rename_i m';split at e1
            . rename_i t' ka' va' ku' vu' l eh
              cases hb:Nat.beq t' t&&fo ka' ka&&fo va' va with
              |false=>rw[hb]at e1;cases e1
              |true=>
               rw[hb]at e1;simp only[ab]at e1;simp only[aH]at hb;obtain⟨⟨hb1,hb2⟩,hb3⟩:=hb;have:=aR hb1;subst this;have:=eN hb2;subst this;have:=eN hb3;subst this;split at e1
               . rename_i eq;obtain⟨eq1,eq2⟩:=eq;subst eq1;subst eq2;injection e1 with e1;injection e1 with h1 h2;subst h1;subst h2;refine⟨.refl _,λhf hm=>⟨λk hk=>(by cases hk;rw[eh];rfl),?_,rfl⟩⟩;have hb:=ok.b m';rw[eh]at hb;rw[ok.some _ _ hm];obtain⟨a1,a2,a3⟩:=hb;refine⟨a1,a2,?_⟩;rcases a3 with a3|⟨r0,es,clock,b1,b2,b3,b4⟩
                 . exact .inl a3
                 . exact .inr ⟨r0,es,clock,b1,b2,b3.mono λ_ _ h=>⟨h.1.mono ok.s (λ_ _=>rfl),h.2.mono ok.s (λ_ _=>rfl)⟩,b4⟩
               . cases e1
            . cases e1
          . split at e1
            . rename_i hpos;rw[aH]at hpos;injection e1 with e1;injection e1 with h1 h2;subst h1;subst h2;refine⟨.refl _,λhf hm=>⟨λk hk=>(by cases hk),?_,rfl⟩⟩;rw[ok.none _ hm];exact⟨hpos.1,trivial,.inl ⟨rfl,rfl⟩⟩
            . cases e1
         |mr t ka ku ee u=>
          simp only[BK.ext]at e1;split at e1
          . rename_i m';split at e1
            . rename_i t' ka' ku' e' u' l eh
              cases hb:Nat.beq t' t&&fo ka' ka&&Nat.beq e' ee with
              |false=>rw[hb]at e1;cases e1
              |true=>
               rw[hb]at e1;simp only[ab]at e1;simp only[aH]at hb;obtain⟨⟨hb1,hb2⟩,hb3⟩:=hb;have:=aR hb1;subst this;have:=eN hb2;subst this;have:=aR hb3;subst this;split at e1
               . rename_i eq;obtain⟨eq1,eq2⟩:=eq;subst eq1;subst eq2;injection e1 with e1;injection e1 with h1 h2;subst h1;subst h2;refine⟨.refl _,λhf hm=>⟨λk hk=>(by cases hk;rw[eh];rfl),?_,rfl⟩⟩;have hb:=ok.b m';rw[eh]at hb;rw[ok.some _ _ hm];obtain⟨a1,r0,es,clock,F,b1,b2,b3,b4⟩:=hb;exact⟨a1,r0,es,clock,F,b1,b2,b3.mono ok.s (λ_ _=>rfl) (λ_ _=>rfl),b4⟩
               . cases e1
            . cases e1
          . cases e1
        refine⟨l1.1.trans l2,λhf n hn=> ?_⟩;have hm:(i,m)∈q.M:=hf.1 _ ((l1.1.trans l2).1 _ (cV em));simp only[cE];by_cases e:n=i
        . subst e;rw[aj];obtain⟨q1,q2,q3⟩:=l1.2 (hf.le l2) hm;exact⟨⟨m,hm,q1⟩,q2,q3⟩
        . rw[az _ _ e];refine k2 hf n ?_
          have:Nat.beq i n=false:=by cases ee:Nat.beq i n with
           |true=>exact absurd (aR ee).symm e
           |false=>rfl
          rw[assoc,this]at hn;exact hn
      . cases h
    . cases h
  . cases h
theorem kU (base:Nat->B):∀{bs:List (Nat×BK)}(x:jW bs){n:Nat},(assoc bs n).isSome=true->(cE base bs x n).mut=true
 |[],_,n,h=>by cases h
 |(i,k)::bs,x,n,h=>by
  simp only[cE];by_cases e:n=i
  . subst e;rw[aj];cases k<;>rfl
  . rw[az _ _ e]
    have:Nat.beq i n=false:=by cases ee:Nat.beq i n with
     |true=>exact absurd (aR ee).symm e
     |false=>rfl
    rw[assoc,this]at h;exact kU base x.2 h
theorem dX (base:Nat->B):∀{bs:List (Nat×BK)}(x:jW bs){n:Nat},assoc bs n=none->cE base bs x n=base n
 |[],_,n,_=>rfl
 |(i,k)::bs,x,n,h=>by
  simp only[cE];by_cases e:n=i
  . subst e;simp[assoc]at h
  . rw[az _ _ e]
    have:Nat.beq i n=false:=by cases ee:Nat.beq i n with
     |true=>exact absurd (aR ee).symm e
     |false=>rfl
    rw[assoc,this]at h;exact dX base x.2 h
theorem ci.still {S S':Nat->Prop}{w:World}{φ φ':Nat->Value}{h h':Nat->B}{ok ok':Nat->Prop}{b:B}{v:Value}(hS:∀g,S g->S' g)(hb:b.mut=false)(hr:ci S w φ h ok v b):ci S' w φ' h' ok' v b:=by
 cases b with
 |free=>trivial
 |gone=>trivial
 |ro e u l=>
  obtain⟨hn,flat,cap,hl,hc,hv⟩:=hr;refine⟨hn,flat,cap,hl.mono λ_ _=>Rep.mono hS (λ_ _=>rfl),hc,?_⟩;rcases hv with hv|⟨g,hv,hm,hs⟩
  . exact .inl hv
  . exact .inr ⟨g,hv,hm,λhne=>hS g (hs hne)⟩
 |glo q=>obtain⟨g,ob,h1,h2,h3,h4⟩:=hr;exact⟨g,ob,h1,h2,h3,hS g h4⟩
 |row=>cases hb
 |box=>cases hb
 |own=>cases hb
 |opn=>cases hb
 |mp=>cases hb
 |mr=>cases hb
def wX (S:Nat->Prop)(φ:Nat->Value)(h:Nat->B)(r:Ren):Nat->Prop:=λg=>S g\/∃k,(h k).mut=true/\k∈r.frz/\Bk (φ k) g
def c9 (φ:Nat->Value)(r:Ren):Nat->Value:=λn=>match assoc r.map n with
 |some (some m)=>φ m
 |some none=>.slice none 0 0
 |none=>φ n
structure yS (s:Spec)(r:Ren):Prop where
 d1:distinct (r.map.map (·.1))=true
 d2:distinct (bP r.map)=true
 blocks:∀p∈r.map,(assoc s.blocks p.1).isSome=true
 aB:∀n,(assoc s.blocks n).isSome=true->bH n=false
 frz:∀z∈r.frz,z∉bP r.map
theorem FM {s:Spec}{r:Ren}(h:vo s.blocks r=true):yS s r:=by
 simp only[vo,aH,dj,ji]at h;obtain⟨⟨⟨⟨h1,h2⟩,h3⟩,h4⟩,h5⟩:=h;refine⟨h1,h2,h3,λn hn=> ?_,λz hz hm=> ?_⟩
 . obtain⟨k,hk⟩:=pQ.1 hn;exact h4 _ (cV hk)
 . have:=h5 z hz;rw[any_beq.2 hm]at this;cases this
theorem Er {s:Spec}{st:St}{x:s.V}{r:Ren}(h:s.ext st=some (x,r)):∃r1,iA st s.temps ⟨s.ren,[]⟩=some (x.1,r1)/\iy st.h s.blocks r1=some (x.2,r)/\yS s r:=by
 unfold Spec.ext at h;split at h
 . rename_i y r1 e1;split at h
   . rename_i z r2 e2
     cases hb:vo s.blocks r2 with
     |false=>rw[hb]at h;cases h
     |true=>rw[hb]at h;injection h with h;injection h with h1 h2;subst h1;subst h2;exact⟨r1,e1,e2,FM hb⟩
   . cases h
 . cases h
theorem tY {cx:Cx}(hcx:∀n,bH n=false->cx.aB n=.free){φ:Nat->Value}{S:Nat->Prop}{w:World}{st:St}(m:aY cx φ S st.h w){tv:Nat->Value}(ht:∀i,bB S w φ st.h (st.t i) (tv i))
    {s:Spec} {x:s.V} {r:Ren} (h:s.ext st=some (x,r)) (φ0:Nat->Value) (hkp:∀n,bZ n=true->((s.st cx.aB x).h n).live=true->pv (c9 φ r n)=pv (φ0 n)):
    aY {cx with φ0:=φ0} (c9 φ r) (wX S φ st.h r) (s.st cx.aB x).h w/\(∀i,bB (wX S φ st.h r) w (c9 φ r) (s.st cx.aB x).h ((s.st cx.aB x).t i) (tv i))/\yS s r/\
     ∀n,(assoc s.blocks n).isSome=true->∃m',(n,m')∈r.map/\∀k,m'=some k->(st.h k).mut=true:=by
 obtain⟨r1,e1,e2,hn⟩:=Er h
 let q:Rd:=⟨S,wX S φ st.h r,w,φ,c9 φ r,st.h,cE cx.aB s.blocks x.2,cx.ok,r.map,r.frz⟩
 have ok:q.Ok:=by
  refine⟨m.b,λg hg=>.inl hg,λk hk hrow g hg=>.inr ⟨k,hrow,hk,hg⟩,hn.d1,λp hp=>bM (kU _ _ (hn.blocks p hp)),λn k hk=> ?_,λn hk=> ?_,λn hg hl=> ?_,λp hp=>hn.aB _ (hn.blocks p hp)⟩
  . show c9 φ r n=φ k;simp[c9,cM hn.d1 hk]
  . show c9 φ r n=_;simp[c9,cM hn.d1 hk]
  . have hb:assoc s.blocks n=none:=by
     cases e:assoc s.blocks n with
     |none=>rfl
     |some k=>have:=hn.aB n (by rw[e];rfl);rw[this]at hg;cases hg
    have hr:assoc r.map n=none:=by
     cases e:assoc r.map n with
     |none=>rfl
     |some k=>have:=hn.blocks _ (cV e);simp only[hb]at this;cases this
    refine⟨?_,by show c9 φ r n=φ n;simp[c9,hr]⟩;show(cE cx.aB s.blocks x.2 n).live=true;rw[dX _ _ hb,<-(m.gl n hg).1];exact hl
 obtain⟨l1,k1⟩:=zY ok rfl ht e1;obtain⟨l2,k2⟩:=zX ok (λ_ _=>trivial) cx.aB e2;have fin:q.fin r:=⟨λ_ h=>h,λ_ h=>h⟩;have hbs:=k2 fin
 have hmut:∀n,((s.st cx.aB x).h n).mut=true->(assoc s.blocks n).isSome=true:=by
  intro n hm
  cases e:assoc s.blocks n with
  |some k=>rfl
  |none=>
   have e3:(s.st cx.aB x).h n=cx.aB n:=dX _ _ e;rw[e3]at hm
   cases hg:bH n with
   |true=>have:=m.gl n hg;rw[<-this.1,this.2]at hm;cases hm
   |false=>rw[hcx n hg]at hm;cases hm
 have src:∀n g,((s.st cx.aB x).h n).mut=true->Bk (c9 φ r n) g->∃k,(n,some k)∈r.map/\(st.h k).mut=true/\Bk (φ k) g:=by
  intro n g hm hg;obtain⟨⟨m',hmem,hmm⟩,_⟩:=hbs n (hmut n hm)
  cases m' with
  |none=>rw[show c9 φ r n=.slice none 0 0 by simp[c9,cM hn.d1 hmem]]at hg;cases hg
  |some k=>rw[show c9 φ r n=φ k by simp[c9,cM hn.d1 hmem]]at hg;exact⟨k,hmem,hmm k rfl,hg⟩
 refine⟨⟨λn=> ?_,λn k g hnk hmn hmk hgn hgk=> ?_,λn g hmn hg hS=> ?_,λg hS hlt=> ?_,λg hS=> ?_,λg hgl hl=> ?_,λn hg=> ?_,hkp,⟨m.keep.os,m.keep.tape,m.keep.output,m.keep.size,m.keep.block⟩⟩,k1 (fin.le l2),hn,λn hb=>(hbs n hb).1⟩
 . cases e:assoc s.blocks n with
   |some k=>exact(hbs n (by rw[e];rfl)).2.1
   |none=>
    have e3:(s.st cx.aB x).h n=cx.aB n:=dX _ _ e;rw[e3]
    cases hg:bH n with
    |false=>rw[hcx n hg];trivial
    |true=>
     have hgl:=m.gl n hg
     have hr:assoc r.map n=none:=by
      cases e4:assoc r.map n with
      |none=>rfl
      |some k=>have:=hn.blocks _ (cV e4);simp only[e]at this;cases this
     have hb:=m.b n;rw[show c9 φ r n=φ n by simp[c9,hr],<-hgl.1];exact ci.still (λg hg=>.inl hg) hgl.2 hb
 . obtain⟨a,ha1,ha2,ha3⟩:=src n g hmn hgn;obtain⟨b,hb1,hb2,hb3⟩:=src k g hmk hgk;by_cases e:a=b
   . subst e;exact hnk (Ft hn.d2 ha1 hb1)
   . exact m.apart a b g e ha2 hb2 ha3 hb3
 . obtain⟨a,ha1,ha2,ha3⟩:=src n g hmn hg;rcases hS with hS|⟨k,hk1,hk2,hk3⟩
   . exact m.sep a g ha2 ha3 hS
   . have:k≠a:=by rintro rfl;exact hn.frz _ hk2 (eG.2 ⟨n,ha1⟩)
     exact m.apart k a g this hk1 ha2 hk3 ha3
 . have hlt:g<cx.w0.heap.size:=hlt;rcases hS with hS|⟨k,hk1,_,hk3⟩
   . exact m.inS g hS hlt
   . rcases gj hk1 (m.b k) hk3 with h|h
     . omega
     . exact .inr h
 . rcases hS with hS|⟨k,hk1,_,hk3⟩
   . exact m.lt g hS
   . exact m.iS hk1 hk3
 . have hb:assoc s.blocks (cU g)=none:=by
    cases e:assoc s.blocks (cU g)with
    |none=>rfl
    |some k=>have:=hn.aB _ (by rw[e];rfl);rw[this]at hgl;cases hgl
   have e3:(s.st cx.aB x).h (cU g)=cx.aB (cU g):=dX _ _ hb
   have hr:assoc r.map (cU g)=none:=by
    cases e4:assoc r.map (cU g)with
    |none=>rfl
    |some k=>have:=hn.blocks _ (cV e4);simp only[hb]at this;cases this
   rw[show c9 φ r (cU g)=φ (cU g) by simp[c9,hr]];exact m.aB g hgl (by rw[(m.gl _ hgl).1,<-e3];exact hl)
 . have hb:assoc s.blocks n=none:=by
    cases e:assoc s.blocks n with
    |none=>rfl
    |some k=>have:=hn.aB n (by rw[e];rfl);rw[this]at hg;cases hg
   have e3:(s.st cx.aB x).h n=cx.aB n:=dX _ _ hb;rw[e3];have:=m.gl n hg;exact⟨rfl,by rw[<-this.1];exact this.2⟩
theorem OP {s:Spec}{st:St}{x:s.V}(h:s.own st=some x):∃r,s.ext st=some (x,r)/\LY r=true:=by
 unfold Spec.own at h;split at h
 . rename_i v r e;split at h
   . rename_i q;injection h with h;subst h;exact⟨r,e,q⟩
   . cases h
 . cases h
theorem A0 {cx:Cx}(hcx:∀n,bH n=false->cx.aB n=.free){φ:Nat->Value}{S:Nat->Prop}{w:World}{st:St}(m:aY cx φ S st.h w){tv:Nat->Value}(ht:∀i,bB S w φ st.h (st.t i) (tv i))
    {s:Spec} {x:s.V} (h:s.own st=some x):∃φ' S',aY cx φ' S' (s.st cx.aB x).h w/\∀i,bB S' w φ' (s.st cx.aB x).h ((s.st cx.aB x).t i) (tv i):=by
 obtain⟨r,h1,h2⟩:=OP h;have hs:=tY hcx m ht h1 (c9 φ r) (λ_ _ _=>rfl);have hn:=hs.2.2.1;have hm:=hs.2.2.2
 obtain⟨a1,a2,_⟩:=tY hcx m ht h1 cx.φ0 (λn hk hl=>by
  have hgl:∀n,assoc s.blocks n=none->(s.st cx.aB x).h n=cx.aB n:=λn hb=>dX _ _ hb
  cases e:assoc s.blocks n with
  |none=>
   rw[hgl n e]at hl
   have hr:assoc r.map n=none:=by
    cases e4:assoc r.map n with
    |none=>rfl
    |some k=>have:=hn.blocks _ (cV e4);simp only[e]at this;cases this
   rw[show c9 φ r n=φ n by simp[c9,hr]]
   cases hg:bH n with
   |false=>rw[hcx n hg]at hl;cases hl
   |true=>exact m.kp n hk (by rw[(m.gl n hg).1];exact hl)
  |some k=>
   obtain⟨m',hm1,hm2⟩:=hm n (by rw[e];rfl);have hp:gB n=true:=by have:bH n=false:=hn.aB n (by rw[e];rfl);simpa[bZ,this]using hk
   have:=(dj.1 h2) _ hm1;simp only[hp,bi,hY]at this
   cases m' with
   |none=>cases this
   |some q=>
    have:=aR this;subst this;rw[show c9 φ r q=φ q by simp[c9,cM hn.d1 hm1]]
    exact m.kp q hk (bM (hm2 q rfl)))
 exact⟨_,_,a1,a2⟩
end Go.Proofs.YtlkkaielmdlefaaGreatDoor.R1
namespace Go.Proofs.YtlkkaielmdlefaaGreatDoor.R1
variable {P : Program} {ρ : Type}
def gy (P:Program)(aB:Nat->B)(k:Nat)(e:af):Prop:=e.ar.blocks.all (λb=>gB b.1)=true/\
 ∀(v:e.ar.V)(o:e.res.V),e.f k v=some o->
 ∀(cx:Cx)(φ:Nat->Value)(S:Nat->Prop)(w:World)(args:Array Value),cx.aB=aB->cx.w0=w->cx.φ0=φ->aY cx φ S (e.ar.st aB v).h w->
  (∀i,bB S w φ (e.ar.st aB v).h ((e.ar.st aB v).t i) (args.getD i undef))->args.size=e.ar.temps.length->
  Calls P e.id args w λen w'=>∃φ' S' val,en=.returned val/\aY cx φ' S' (e.res.st aB o).h w'/\bB S' w' φ' (e.res.st aB o).h (zG (lr e.res.temps o.1)) val
theorem Rep.flat {S S':Nat->Prop}{w w':World}:∀{u:U}{x:El u}{vs:List Value},u.flat=true->Rep S w u x vs->Rep S' w' u x vs:=by
 intro u
 induction u with
 |pair a b iha ihb=>
  rintro x vs hf ⟨v1,v2,e,h1,h2⟩;simp only[U.flat,aH]at hf;exact⟨v1,v2,e,iha hf.1 h1,ihb hf.2 h2⟩
 |sl e ih=>intro x vs hf;cases hf
 |_=>exact λ_ h=>h
theorem aQ.ren {S S':Nat->Prop}{w w':World}{φ φ':Nat->Value}{h h':Nat->B}{nm:List (Nat×Nat)}(hd:∀{u:U}{x:El u}{vs:List Value},Rep S w u x vs->Rep S' w' u x vs)(hS:∀g,S g->S' g)(hm:∀a vs,Mem w a vs->(vs≠[]->S a.block)->Mem w' a vs)
    (hn:∀n,(h n).live=true->(h' (cn nm n)).live=true/\pv (φ' (cn nm n))=pv (φ n)):∀{c:C}{v:Value},aQ S w φ h c v->aQ S' w' φ' h' (uG nm c) v:=by
 intro c
 induction c with
 |row n=>rintro v ⟨hl,hv,hx⟩;exact⟨(hn n hl).1,by rw[(hn n hl).2];exact hv,hx⟩
 |ptr n i sz off=>rintro v ⟨hl,g,hg,hv⟩;exact⟨(hn n hl).1,g,by rw[(hn n hl).2];exact hg,hv⟩
 |tail n i sz=>rintro v ⟨hl,A,l,c,h1,h2,h3⟩;exact⟨(hn n hl).1,A,l,c,by rw[(hn n hl).2];exact h1,h2,h3⟩
 |slx u l=>rintro v ⟨h1,h2⟩;exact⟨hd h1,h2⟩
 |sl u l=>exact λh=>hd h
 |dptr u x off=>rintro v ⟨a,cs,hv,h1,h2,h3⟩;exact⟨a,cs,hv,hd h1,hm a cs h2 h3,λhne=>hS _ (h3 hne)⟩
 |cap g c ihg ihc=>rintro v ⟨f,cs,x,h1,h2,hv⟩;exact⟨f,cs,x,ihg h1,ihc h2,hv⟩
 |mapr b n=>rintro v ⟨hl,q,h1,h2,h3⟩;exact⟨(hn n hl).1,q,h1,h2,by rw[(hn n hl).2];exact h3⟩
 |_=>exact λh=>h
theorem aQ.Tx {S S':Nat->Prop}{w w':World}{φ φ':Nat->Value}{h h':Nat->B}{nm:List (Nat×Nat)}
    (hn:∀n,(h n).live=true->(h' (cn nm n)).live=true/\pv (φ' (cn nm n))=pv (φ n)):∀{c:C}{v:Value},c.flat=true->aQ S w φ h c v->aQ S' w' φ' h' (uG nm c) v:=by
 intro c
 induction c with
 |row n=>rintro v _ ⟨hl,hv,hx⟩;exact⟨(hn n hl).1,by rw[(hn n hl).2];exact hv,hx⟩
 |ptr n i sz off=>rintro v _ ⟨hl,g,hg,hv⟩;exact⟨(hn n hl).1,g,by rw[(hn n hl).2];exact hg,hv⟩
 |tail n i sz=>rintro v _ ⟨hl,A,l,c,h1,h2,h3⟩;exact⟨(hn n hl).1,A,l,c,by rw[(hn n hl).2];exact h1,h2,h3⟩
 |slx u l=>intro v hf;cases hf
 |sl u l=>intro v hf;cases hf
 |dptr u x off=>intro v hf;cases hf
 |cap g c ihg ihc=>
  rintro v hf ⟨f,cs,x,h1,h2,hv⟩;simp only[C.flat,aH]at hf;exact⟨f,cs,x,ihg hf.1 h1,ihc hf.2 h2,hv⟩
 |mapr b n=>rintro v _ ⟨hl,q,h1,h2,h3⟩;exact⟨(hn n hl).1,q,h1,h2,by rw[(hn n hl).2];exact h3⟩
 |_=>exact λ_ h=>h
theorem Hr :∀{k:CK}{x:k.T},k.flat=true->(k.mk x).flat=true:=by
 intro k
 induction k with
 |sl u=>intro x h;cases h
 |slx u=>intro x h;cases h
 |dp u=>intro x h;cases h
 |lit c=>intro x h;exact h
 |cap g c ihg ihc=>intro x h;simp only[CK.flat,aH]at h;simp only[CK.mk,C.flat,aH];exact⟨ihg h.1,ihc h.2⟩
 |_=>intro x _;rfl
theorem xc :∀{ks:List CK}{x:sk ks},ks.all CK.flat=true->∀c∈xn ks x,c.flat=true
 |[],_,_,c,hc=>by cases hc
 |k::ks,x,h,c,hc=>by
  simp only[List.all_cons,aH]at h;rcases aG.1 hc with rfl|hc
  . exact Hr h.1
  . exact xc h.2 c hc
theorem aW.yl {α β γ:Type}{r:α->β->Prop}{r':γ->β->Prop}{f:α->γ}:∀{l:List α}{m:List β},(∀a∈l,∀b,r a b->r' (f a) b)->aW r l m->aW r' (l.map f) m
 |[],[],_,_=>trivial
 |_::_,_::_,h,ha=>⟨h _ (by simp) _ ha.1,aW.yl (λa hm=>h a (bk _ hm)) ha.2⟩
 |[],_::_,_,h=>h.elim
 |_::_,[],_,h=>h.elim
theorem fq.flat {S S':Nat->Prop}{w w':World}{a:Bool}{u:U}{x:El u}{v:Value}(hf:u.flat=true)(h:fq S w a u x v):fq S' w' a u x v:=by
 cases a with
 |true=>obtain⟨cs,e,h⟩:=h;exact⟨cs,e,h.flat hf⟩
 |false=>exact Rep.flat hf h
theorem aY.aaI {cx cx':Cx}{φ:Nat->Value}{S:Nat->Prop}{h:Nat->B}{w:World}(m:aY cx φ S h w)(hg:cx'.aB=cx.aB)(hok:∀n g,(h n).mut=true->Bk (φ n) g->cx'.ok g)(hin:∀g,S g->g<cx'.w0.heap.size->cx'.S0 g\/cx'.own g)(hφ:∀n,bZ n=true->(h n).live=true->pv (φ n)=pv (cx'.φ0 n))(hk:xq cx' w):aY cx' φ S h w:=by
 refine⟨λn=> ?_,m.apart,m.sep,hin,m.lt,m.aB,by rw[hg];exact m.gl,hφ,hk⟩;have hb:=m.b n
 cases e:h n with
 |free=>trivial
 |gone=>trivial
 |row ee u l=>
  rw[e]at hb;obtain⟨a1,flat,a2,a3,a4⟩:=hb;exact⟨a1,flat,a2,a3,λg hg=>hok n g (by rw[e];rfl) hg⟩
 |ro ee u l=>rw[e]at hb;exact hb
 |glo q=>rw[e]at hb;exact hb
 |box t cs=>
  rw[e]at hb;obtain⟨g,vals,a1,a2,a3,a4⟩:=hb;exact⟨g,vals,a1,a2,a3,hok n g (by rw[e];rfl) (by rw[a1];exact ic.2 rfl)⟩
 |own t o l=>
  rw[e]at hb;obtain⟨s,F,a1,a2,a3,a4⟩:=hb;exact⟨s,F,a1,a2,a3,λg hg=>hok n g (by rw[e];rfl) (by unfold Bk;rw[a1.2];exact hg)⟩
 |opn t o l i cs=>
  rw[e]at hb;obtain⟨s,F,v1,v2,v3,F1,F3,a1,a2,a3,a4,a5,a6,a7,a8,a9,a10,a11⟩:=hb;exact⟨s,F,v1,v2,v3,F1,F3,a1,a2,a3,a4,a5,a6,a7,a8,a9,a10,λg hg=>hok n g (by rw[e];rfl) (by rw[a1];unfold Bk;rw[cw];exact hg)⟩
 |mp t ka va ku vu l=>
  rw[e]at hb;obtain⟨a1,a2,a3⟩:=hb;refine⟨a1,a2,?_⟩;rcases a3 with a3|⟨r0,es,clock,b1,b2,b3,b4⟩
  . exact .inl a3
  . exact .inr ⟨r0,es,clock,b1,b2,b3,hok n r0 (by rw[e];rfl) (by rw[b1];exact iR.2 rfl)⟩
 |mr t ka ku ee u l=>rw[e]at hb;obtain⟨a1,r0,es,clock,F,b1,b2,b3,b4,b5,b6,b7⟩:=hb;exact⟨a1,r0,es,clock,F,b1,b2,b3,b4,b5,b6,λg hg=>⟨hok n g (by rw[e];rfl) hg,(b7 g hg).2⟩⟩
theorem eL :∀(map:List (Nat×Option Nat))(h:Nat->B)(k:Nat),(k∈bP map->gW h map k=.gone)/\(k∉bP map->gW h map k=h k)
 |[],h,k=>⟨λhk=>by simp[bP]at hk,λ_=>rfl⟩
 |(n,none)::map,h,k=>eL map h k
 |(n,some j)::map,h,k=>by
  simp only[gW,bP];obtain⟨h1,h2⟩:=eL map (upd h j .gone) k;refine⟨λhk=> ?_,λhk=> ?_⟩
  . by_cases e:k∈bP map
    . exact h1 e
    . rw[h2 e];rcases aG.1 hk with rfl|hk
      . rw[aj]
      . exact absurd hk e
  . have e1:k≠j:=λe=>hk (by rw[e];simp)
    have e2:k∉bP map:=λe=>hk (bk _ e)
    rw[h2 e2,az _ _ e1]
theorem jQ (map:List (Nat×Option Nat))(dst:Nat):∀(bs:List (Nat×BK))(i:Nat),(dd map dst bs i).map (·.1)=bs.map (·.1)
 |[],_=>rfl
 |(n,k)::bs,i=>by simp only[dd];split<;>simp[jQ map dst bs]
theorem jm (map:List (Nat×Option Nat))(dst:Nat):∀(bs:List (Nat×BK))(i:Nat){n m:Nat},(n,m)∈dd map dst bs i->(assoc map n=some (some m))\/∀k,assoc map n≠some (some k)
 |[],_,n,m,h=>by cases h
 |(j,k)::bs,i,n,m,h=>by
  simp only[dd]at h;split at h
  . rename_i m' e;rcases aG.1 h with h|h
    . injection h with h1 h2;subst h1;subst h2;exact .inl e
    . exact jm map dst bs i h
  . rename_i e;rcases aG.1 h with h|h
    . injection h with h1 h2;subst h1;exact .inr λq hq=>e q hq
    . exact jm map dst bs (i+1) h
theorem qF {h:Nat->B}{map:List (Nat×Option Nat)}:∀{nm:List (Nat×Nat)},gV h map nm=true->∀{n m:Nat},(n,m)∈nm->(∀k,assoc map n≠some (some k))->h m=.free/\bZ m=false
 |[],_,n,m,hm,_=>by cases hm
 |(i,j)::nm,hf,n,m,hm,hno=>by
  simp only[gV,aH]at hf;rcases aG.1 hm with e|hm
  . injection e with e1 e2;subst e1;subst e2;have h1:=hf.1;split at h1
    . rename_i q e;exact absurd e (hno q)
    . split at h1
      . rename_i e1 e2;exact⟨e1,e2⟩
      . cases h1
  . exact qF hf.2 hm hno
theorem sZ {nm:List (Nat×Nat)}:∀{bs:List (Nat×BK)}(x:jW bs)(h:Nat->B)(k:Nat),(∀b∈bs,cn nm b.1≠k)->gZ nm h bs x k=h k
 |[],_,_,_,_=>rfl
 |(n,b)::bs,x,h,k,hne=>by simp only[gZ];rw[az _ _ (λe=>hne (n,b) (by simp) e.symm)];exact sZ x.2 h k λb hb=>hne b (bk _ hb)
theorem yu {nm:List (Nat×Nat)}(base:Nat->B):∀{bs:List (Nat×BK)}(x:jW bs)(h:Nat->B){n:Nat},(assoc bs n).isSome=true->(∀b∈bs,cn nm b.1=cn nm n->b.1=n)->gZ nm h bs x (cn nm n)=(cE base bs x n).ren nm
 |[],_,_,n,hn,_=>by cases hn
 |(i,b)::bs,x,h,n,hn,hinj=>by
  simp only[gZ,cE];by_cases e:n=i
  . subst e;rw[aj,aj]
  . rw[az _ _ e,az _ _ (λe'=>e (hinj (i,b) (by simp) e'.symm).symm)]
    have:Nat.beq i n=false:=by cases ee:Nat.beq i n with
     |true=>exact absurd (aR ee).symm e
     |false=>rfl
    rw[assoc,this]at hn;exact yu base x.2 h hn λb hb=>hinj b (bk _ hb)
theorem E0 {nm:List (Nat×Nat)}(b:B):(b.ren nm).live=b.live:=by cases b<;>rfl
theorem kj.{u}{α:Type u}:∀{l:List (Nat×α)}{n:Nat},n∈l.map (·.1)↔(assoc l n).isSome=true
 |[],n=>by simp[assoc]
 |(i,x)::l,n=>by
  simp only[cR,aG,assoc]
  cases e:Nat.beq i n with
  |true=>simp[aR e]
  |false=>
   have:n≠i:=by rintro rfl;rw[jj]at e;cases e
   simp[this,kj]
theorem TF :∀{l:List (Nat×Nat)}{a b m:Nat},distinct (l.map (·.2))=true->(a,m)∈l->(b,m)∈l->a=b:=by
 intro l
 induction l with
 |nil=>intro a b m _ h;cases h
 |cons p l ih=>
  intro a b m hd h1 h2;obtain⟨i,j⟩:=p;obtain⟨d1,d2⟩:=nN hd;rcases aG.1 h1 with e|g1
  . rcases aG.1 h2 with e'|g2
    . injection e with e1 _;injection e' with e2 _;exact e1.trans e2.symm
    . injection e with _ e;subst e;exact absurd (eZ.2 ⟨_,g2,rfl⟩) d1
  . rcases aG.1 h2 with e'|g2
    . injection e' with _ e;subst e;exact absurd (eZ.2 ⟨_,g1,rfl⟩) d1
    . exact ih d2 g1 g2
theorem O.sH {S S':Nat->Prop}{w:World}:∀{o:O}{x:El o.u}{vs:List Value}{F:List Nat},o.flat=true->bC S w o x vs F->bC S' w o x vs F:=by
 intro o
 induction o with
 |d u=>rintro x vs F hf ⟨h,e⟩;exact⟨Rep.flat hf h,e⟩
 |p a b iha ihb=>
  rintro x vs F hf ⟨v1,v2,F1,F2,e1,e2,h1,h2⟩;simp only[O.flat,aH]at hf;exact⟨v1,v2,F1,F2,e1,e2,iha hf.1 h1,ihb hf.2 h2⟩
 |s t e ih=>rintro l vs F hf ⟨v,e1,flat,F',hn,ho,hl,hF⟩;exact⟨v,e1,flat,F',hn,ho,hl.mono (Q:=λ_=>True) (λx vs F _ h=>ih hf h) (λ_ _=>trivial),hF⟩
theorem tL (base:Nat->B):∀{bs:List (Nat×BK)}(x:jW bs){n:Nat},(assoc bs n).isSome=true->∀t o l i cs,cE base bs x n≠ .opn t o l i cs
 |[],_,n,h,_,_,_,_,_=>by cases h
 |(i,k)::bs,x,n,h,t,o,l,j,cs=>by
  simp only[cE];by_cases e:n=i
  . subst e;rw[aj];cases k<;>(intro h;cases h)
  . rw[az _ _ e]
    have:Nat.beq i n=false:=by cases ee:Nat.beq i n with
     |true=>exact absurd (aR ee).symm e
     |false=>rfl
    rw[assoc,this]at h;exact tL base x.2 h t o l j cs
theorem dz.flat {S S':Nat->Prop}{w:World}{ka:Bool}{ku:U}{e:Nat}{u:U}(hk:ku.flat=true)(hu:u.flat=true):∀{l:List (El ku×Option (List (El u)))}{es:List MapEntry}{F:List Nat},dz S w ka ku e u l es F->dz S' w ka ku e u l es F
 |[],[],_,h=>h
 |(_,none)::l,en::es,_,⟨F1,F2,e1,h1,h2,h3⟩=>⟨F1,F2,e1,h1.flat hk,h2,dz.flat hk hu h3⟩
 |(_,some x)::l,en::es,_,⟨F1,F2,e1,h1,h2,h3⟩=>by
  refine⟨F1,F2,e1,h1.flat hk,?_,dz.flat hk hu h3⟩;obtain⟨flat,F',hn,ho,hl,hF⟩:di (bC S w (.d u)) w e u.n x en.val F1:=h2;exact⟨flat,F',hn,ho,hl.mono (Q:=λ_=>True) (λx vs F _ h=>O.sH (o:=.d u) hu h) (λ_ _=>trivial),hF⟩
 |[],_::_,_,h=>h.elim
 |_::_,[],_,h=>h.elim
theorem U.sH {S S':Nat->Prop}{w w':World}{u:U}(hf:u.flat=true){l:List (El u)}{flat:List Value}(h:b9 (Rep S w u) l flat):b9 (Rep S' w' u) l flat:=h.mono λ_ _ hr=>Rep.flat hf hr
theorem wm {S:Nat->Prop}{w:World}{φ:Nat->Value}{h:Nat->B}{args:List V}{xs:List Value}(ha:aW (bB S w φ h) args xs)(i:Nat):bB S w φ h (ofList args i) (xs.getD i undef):=by
 unfold ofList
 cases e:args[i]? with
 |none=>trivial
 |some v=>
  obtain⟨x,hx,hr⟩:=ha.get e;have:xs.getD i undef=x:=by simp[List.getD,hx]
  rw[this];exact hr
theorem rQ (ns:List Nat):∀(h:Nat->B)(k:Nat),aZ h ns k=h k\/aZ h ns k=(h k).freeze:=by
 induction ns with
 |nil=>intro h k;exact .inl rfl
 |cons n r ih=>
  intro h k;rw[aZ];rcases ih (upd h n (h n).freeze) k with e|e
  . rw[e];by_cases q:k=n
    . subst q;rw[aj];exact .inr rfl
    . rw[az _ _ q];exact .inl rfl
  . rw[e];by_cases q:k=n
    . subst q;rw[aj];refine .inr ?_;cases h k<;>rfl
    . rw[az _ _ q];exact .inr rfl
theorem iB (ns:List Nat):∀(h:Nat->B)(k:Nat),k∉ns->aZ h ns k=h k:=by
 induction ns with
 |nil=>intro h k _;rfl
 |cons n r ih=>intro h k hk;rw[aZ,ih _ _ (λh=>hk (bk _ h)),az _ _ (λe=>hk (by rw[e];simp))]
theorem vL (ns:List Nat):∀(h:Nat->B),∀k∈ns,(aZ h ns k).mut=false:=by
 induction ns with
 |nil=>intro h k hk;cases hk
 |cons n r ih=>
  intro h k hk;rw[aZ];by_cases e:k∈r
  . exact ih _ k e
  . have hkn:k=n:=by rcases aG.1 hk with h|h;exact h;exact absurd h e
    subst hkn;rcases rQ r (upd h k (h k).freeze) k with q|q
    . rw[q,aj];exact sJ
    . rw[q];exact sJ
theorem gz (base:Nat->B):∀{bs:List (Nat×BK)}(x:jW bs),bs.all (λp=>p.2.flat)=true->∀{n:Nat},(assoc bs n).isSome=true->(∀e u l,cE base bs x n=.row e u l->u.flat=true)/\(∀t cs,cE base bs x n=.box t cs->∀c∈cs,c.flat=true)/\(∀t o l,cE base bs x n=.own t o l->o.flat=true)/\(∀t ka va ku vu l,cE base bs x n=.mp t ka va ku vu l->vu.flat=true)/\(∀t ka ku e u l,cE base bs x n=.mr t ka ku e u l->u.flat=true)
 |[],_,_,n,h=>by cases h
 |(i,k)::bs,x,hf,n,h=>by
  simp only[List.all_cons,aH]at hf;simp only[cE];by_cases e:n=i
  . subst e;rw[aj]
    cases k with
    |row e' u'=>exact⟨λe u l h=>(by injection h with h1 h2 h3;subst h2;exact hf.1),λt cs h=>(by cases h),λt o l h=>(by cases h),λt ka va ku vu l h=>(by cases h),λt ka ku e u l h=>(by cases h)⟩
    |box t' ks=>exact⟨λe u l h=>(by cases h),λt cs h c hc=>(by injection h with h1 h2;subst h2;exact xc hf.1 c hc),λt o l h=>(by cases h),λt ka va ku vu l h=>(by cases h),λt ka ku e u l h=>(by cases h)⟩
    |own t' o'=>exact⟨λe u l h=>(by cases h),λt cs h=>(by cases h),λt o l h=>(by injection h with h1 h2 h3;subst h2;exact hf.1),λt ka va ku vu l h=>(by cases h),λt ka ku e u l h=>(by cases h)⟩
    |mp t' ka' va' ku' vu'=>exact⟨λe u l h=>(by cases h),λt cs h=>(by cases h),λt o l h=>(by cases h),λt ka va ku vu l h=>(by injection h with h1 h2 h3 h4 h5;subst h5;exact(Bool.and_eq_true_iff.1 hf.1).2),λt ka ku e u l h=>(by cases h)⟩
    |mr t' ka' ku' e' u'=>exact⟨λe u l h=>(by cases h),λt cs h=>(by cases h),λt o l h=>(by cases h),λt ka va ku vu l h=>(by cases h),λt ka ku e u l h=>(by injection h with h1 h2 h3 h4 h5;subst h5;exact(Bool.and_eq_true_iff.1 hf.1).2)⟩
  . rw[az _ _ e]
    have:Nat.beq i n=false:=by cases ee:Nat.beq i n with
     |true=>exact absurd (aR ee).symm e
     |false=>rfl
    rw[assoc,this]at h;exact gz base x.2 hf.2 h
theorem Bf :∀{ts:List (Nat×VK)}{x:nJ ts},ts.all (λp=>p.2.flat)=true->∀y∈lr ts x,∀c∈y.cells,c.flat=true
 |[],_,_,y,hy=>by cases hy
 |(i,k)::ts,x,hf,y,hy=>by
  simp only[List.all_cons,aH]at hf;rcases aG.1 hy with rfl|hy
  . cases k with
    |c k=>intro c hc;simp[VK.mkW,W1.cells]at hc;subst hc;exact Hr hf.1
    |agg ks=>intro c hc;exact xc hf.1 c hc
  . exact Bf hf.2 y hy
theorem LI {S S':Nat->Prop}{w w':World}{φ φ':Nat->Value}{h h':Nat->B}{f:W1->W1}{ws:List W1}{v:Value}(hf:∀y∈ws,∀v,gx S w φ h y v->gx S' w' φ' h' (f y) v)(hr:bB S w φ h (zG ws) v):bB S' w' φ' h' (zG (ws.map f)) v:=by
 cases ws with
 |nil=>obtain⟨vs,hv,ha⟩:=hr;exact⟨vs,hv,aW.yl hf ha⟩
 |cons y ws=>cases ws with
  |nil=>exact hf y (by simp) v hr
  |cons z ws=>obtain⟨vs,hv,ha⟩:=hr;exact⟨vs,hv,aW.yl hf ha⟩
open Classical in
theorem BH {cx:Cx}(hcx:∀n,bH n=false->cx.aB n=.free){φ:Nat->Value}{S:Nat->Prop}{w:World}{st:St}(m:aY cx φ S st.h w){args:List V}{xs:List Value}(ha:aW (bB S w φ st.h) args xs)
    {k dst:Nat} {e:af} (he:gy P cx.aB k e) {κ:V->St->Option ρ} {r0:ρ} {other:Option ρ} (hother:other=some r0->Calls P e.id xs.toArray w λen w'=>∃vv st' φ' S' val,κ vv st'=some r0/\en=.returned val/\aY cx φ' S' st'.h w'/\st'.t=st.t/\bE S S' w w' φ φ' st.h st'.h/\bB S' w' φ' st'.h vv val)
    (h:e7 k st dst args e κ other=some r0):
    Calls P e.id xs.toArray w λen w'=>∃vv st' φ' S' val,κ vv st'=some r0/\en=.returned val/\aY cx φ' S' st'.h w'/\st'.t=st.t/\bE S S' w w' φ φ' st.h st'.h/\bB S' w' φ' st'.h vv val:=by
 unfold e7 at h;split at h
 case h_2=>exact hother h
 rename_i v r hext hlen;have hlen:=aR hlen;obtain⟨o,hfo,hk⟩:=bR.1 h;obtain⟨mE,tE,hnm,hmutE⟩:=tY hcx (st:=⟨ofList args,st.h⟩) m (tv:=λi=>xs.getD i undef) (λi=>wm ha i) hext (c9 φ r) (λ_ _ _=>rfl)
 let cx':Cx:=⟨cx.aB,w,λg=>∃n,(assoc e.ar.blocks n).isSome=true/\Bk (c9 φ r n) g,wX S φ st.h r,c9 φ r⟩
 have ownM:∀g,cx'.own g->∃j,j∈bP r.map/\(st.h j).mut=true/\Bk (φ j) g:=by
  rintro g ⟨n,hn,hg⟩;obtain⟨m',hm',hmm⟩:=hmutE n hn
  cases m' with
  |none=>rw[show c9 φ r n=.slice none 0 0 by simp[c9,cM hnm.d1 hm']]at hg;cases hg
  |some j=>rw[show c9 φ r n=φ j by simp[c9,cM hnm.d1 hm']]at hg;exact⟨j,eG.2 ⟨n,hm'⟩,hmm j rfl,hg⟩
 have blocksMut:∀n,((e.ar.st cx.aB v).h n).mut=true->(assoc e.ar.blocks n).isSome=true:=by
  intro n hm
  cases ea:assoc e.ar.blocks n with
  |some k=>rfl
  |none=>
   have e3:(e.ar.st cx.aB v).h n=cx.aB n:=dX _ _ ea;have hg:=mE.gl n
   cases hgl:bH n with
   |true=>rw[(hg hgl).2]at hm;cases hm
   |false=>rw[e3,hcx n hgl]at hm;cases hm
 have mC:aY cx' (c9 φ r) (wX S φ st.h r) (e.ar.st cx.aB v).h w:=mE.aaI rfl (λn g hm hg=>.inr ⟨n,blocksMut n hm,hg⟩) (λg hg _=>.inl hg) (λ_ _ _=>rfl) ⟨rfl,rfl,rfl,aM _,λ_ _ _=>rfl⟩
 have hargs:∀i,bB (wX S φ st.h r) w (c9 φ r) (e.ar.st cx.aB v).h ((e.ar.st cx.aB v).t i) (xs.toArray.getD i undef):=by
  intro i;have:=tE i;have e1:xs.toArray.getD i undef=xs.getD i undef:=by simp[List.getD]
  rw[e1];exact this
 refine(he.2 v o hfo cx' (c9 φ r) (wX S φ st.h r) w xs.toArray rfl rfl rfl mC hargs (by rw[List.size_toArray,<-ha.length];exact hlen)).mono ?_;rintro en w' ⟨φ',S',val,rfl,mR,hval⟩;split at hk
 case h_2=>cases hk
 rename_i hfree hdist;generalize hnmE:dd r.map dst e.res.blocks 0=nm at hk hfree hdist;have hfst:nm.map (·.1)=e.res.blocks.map (·.1):=by rw[<-hnmE];exact jQ _ _ _ _
 obtain⟨h1,S1,hh1,hS1,m1,hlat1⟩:∃h1 S1,h1=(match e.res.flat with|true=>st.h|false=>aZ st.h r.frz)/\(∀g,S g->S1 g)/\aY cx φ S1 h1 w/\(∀j,(h1 j).live=(st.h j).live)/\(∀j,(h1 j).mut=true->(st.h j).mut=true)/\
     (e.res.flat=false->∀j∈r.frz,(h1 j).mut=false):=by
  cases hf:e.res.flat with
  |true=>exact⟨_,S,rfl,λ_ h=>h,m,λ_=>rfl,λ_ h=>h,λh=>by cases h⟩
  |false=>obtain⟨S1,a1,a2,a3⟩:=m.aZ r.frz;exact⟨_,S1,rfl,a1,a2,λj=>rR _ _ _,λj=>BM _ _ _,λ_ j hj=>vL _ _ j hj⟩
 obtain⟨hlat1,hmut1,hrow1⟩:=hlat1;have nmem:∀n,(assoc e.res.blocks n).isSome=true->(n,cn nm n)∈nm:=by intro n hn;have:(assoc nm n).isSome=true:=kj.1 (by rw[hfst];exact kj.2 hn);obtain⟨q,hq⟩:=pQ.1 this;rw[show cn nm n=q by simp[cn,hq]];exact cV hq
 have ninj:∀a b,(assoc e.res.blocks a).isSome=true->(assoc e.res.blocks b).isSome=true->cn nm a=cn nm b->a=b:=by intro a b ha hb hab;have h1:=nmem a ha;rw[hab]at h1;exact TF hdist h1 (nmem b hb)
 have ncase:∀n,(assoc e.res.blocks n).isSome=true->(∃q,(n,some q)∈r.map/\cn nm n=q/\(st.h q).mut=true/\pv (φ' n)=pv (φ q))\/((∀q,assoc r.map n≠some (some q))/\st.h (cn nm n)=.free/\bZ (cn nm n)=false):=by
  intro n hn;have hm:=nmem n hn;rw[<-hnmE]at hm;rcases jm _ _ _ _ hm with hq|hq
  . rw[hnmE]at hq;have hmem:=cV hq;have hab:=hnm.blocks _ hmem;obtain⟨m',hm',hmm⟩:=hmutE n hab;have:m'=some (cn nm n):=by have h1:=cM hnm.d1 hm';rw[hq]at h1;exact(dk h1).symm
    subst this;refine .inl ⟨cn nm n,hmem,rfl,hmm _ rfl,?_⟩;have hpar:gB n=true:=by obtain⟨kk,hkk⟩:=pQ.1 hab;exact(dj.1 he.1) _ (cV hkk)
    have:=mR.kp n (by simp[bZ,hpar]) (bM (kU _ _ hn));rw[this];show pv (c9 φ r n)=_;simp[c9,hq]
  . rw[hnmE]at hm;exact .inr ⟨hq,qF hfree hm hq⟩
 have actM:∀j∈bP r.map,(st.h j).mut=true:=by intro j hj;obtain⟨n,hn⟩:=eG.1 hj;obtain⟨m',hm',hmm⟩:=hmutE n (hnm.blocks _ hn);have h1:=cM hnm.d1 hm';have h2:=cM hnm.d1 hn;rw[h1]at h2;exact hmm j (dk h2)
 have act1:∀j∈bP r.map,h1 j=st.h j:=by
  intro j hj;rw[hh1]
  cases e.res.flat with
  |true=>rfl
  |false=>exact iB _ _ _ λh=>hnm.frz j h hj
 let φ2:Nat->Value:=λj=>if hx:∃n,(assoc e.res.blocks n).isSome=true/\cn nm n=j then φ' hx.choose else φ j
 have φ2at:∀n,(assoc e.res.blocks n).isSome=true->φ2 (cn nm n)=φ' n:=by intro n hn;have hx:∃a,(assoc e.res.blocks a).isSome=true/\cn nm a=cn nm n:=⟨n,hn,rfl⟩;show(if hx:∃a,(assoc e.res.blocks a).isSome=true/\cn nm a=cn nm n then φ' hx.choose else φ (cn nm n))=φ' n;rw[gE hx];rw[ninj _ _ hx.choose_spec.1 hn hx.choose_spec.2]
 have φ2keep:∀j,(st.h j).live=true->j∉bP r.map->φ2 j=φ j:=by
  intro j hj hja;show(if hx:∃a,(assoc e.res.blocks a).isSome=true/\cn nm a=j then φ' hx.choose else φ j)=φ j;rw[dif_neg];rintro⟨n,hn,rfl⟩;rcases ncase n hn with⟨q,hq1,hq2,_⟩|⟨_,hq2,_⟩
  . exact hja (eG.2 ⟨n,by rw[hq2];exact hq1⟩)
  . rw[hq2]at hj;cases hj
 have φ2old:∀j,(st.h j).live=true->pv (φ2 j)=pv (φ j):=by
  intro j hj;by_cases hx:∃a,(assoc e.res.blocks a).isSome=true/\cn nm a=j
  . obtain⟨n,hn,rfl⟩:=hx;rw[φ2at n hn];rcases ncase n hn with⟨q,_,hq2,_,hq4⟩|⟨_,hq2,_⟩
    . rw[hq2];exact hq4
    . rw[hq2]at hj;cases hj
  . show pv (if hx:∃a,(assoc e.res.blocks a).isSome=true/\cn nm a=j then φ' hx.choose else φ j)=pv (φ j);rw[dif_neg hx]
 generalize hh3:gZ nm (gW (match e.res.flat with|true=>st.h|false=>aZ st.h r.frz) r.map) e.res.blocks o.2=h3 at hk;rw[<-hh1]at hh3;have memBs:∀b∈e.res.blocks,(assoc e.res.blocks b.1).isSome=true:=λb hb=>kj.1 (eZ.2 ⟨b,hb,rfl⟩)
 have h3at:∀n,(assoc e.res.blocks n).isSome=true->h3 (cn nm n)=((e.res.st cx.aB o).h n).ren nm:=by intro n hn;rw[<-hh3];exact yu cx.aB o.2 _ hn λb hb hbn=>ninj _ _ (memBs b hb) hn hbn
 have h3out:∀j,(∀n,(assoc e.res.blocks n).isSome=true->cn nm n≠j)->h3 j=gW h1 r.map j:=by intro j hj;rw[<-hh3];exact sZ _ _ _ λb hb=>hj _ (memBs b hb)
 have resMut:∀n,(assoc e.res.blocks n).isSome=true->((e.res.st cx.aB o).h n).mut=true:=λn hn=>kU _ _ hn
 have resOut:∀n,assoc e.res.blocks n=none->(e.res.st cx.aB o).h n=cx.aB n:=λn hn=>dX _ _ hn
 have resMut':∀n,((e.res.st cx.aB o).h n).mut=true->(assoc e.res.blocks n).isSome=true:=by
  intro n hm
  cases ea:assoc e.res.blocks n with
  |some k=>rfl
  |none=>
   rw[resOut n ea]at hm
   cases hgl:bH n with
   |true=>have:=mR.gl n hgl;rw[resOut n ea]at this;rw[this.2]at hm;cases hm
   |false=>rw[hcx n hgl]at hm;cases hm
 have globOut:∀j,bH j=true->∀n,(assoc e.res.blocks n).isSome=true->cn nm n≠j:=by
  rintro j hj n hn rfl;rcases ncase n hn with⟨q,_,hq2,hq3,_⟩|⟨_,_,hq3⟩
  . have:=m.gl _ hj;rw[hq2,hq3]at this;cases this.2
  . rw[ia hq3]at hj;cases hj
 have globAct:∀j,bH j=true->j∉bP r.map:=by intro j hj hm;have:=m.gl j hj;rw[actM j hm]at this;cases this.2
 have glob3:∀j,bH j=true->h3 j=h1 j:=by intro j hj;rw[h3out j (globOut j hj)];exact(eL r.map h1 j).2 (globAct j hj)
 have live3:∀j,(st.h j).live=true->(h3 j).live=true:=by
  intro j hj;by_cases hit:∃n,(assoc e.res.blocks n).isSome=true/\cn nm n=j
  . obtain⟨n,hn,rfl⟩:=hit;rw[h3at n hn,E0];exact bM (resMut n hn)
  . rw[h3out j λn hn hj=>hit ⟨n,hn,hj⟩];by_cases ha:j∈bP r.map
    . rw[(eL r.map h1 j).1 ha];rfl
    . rw[(eL r.map h1 j).2 ha,hlat1];exact hj
 let S2:Nat->Prop:=λg=>S1 g\/e.res.flat=false/\S' g
 have names:∀n,((e.res.st cx.aB o).h n).live=true->(h3 (cn nm n)).live=true/\pv (φ2 (cn nm n))=pv (φ' n):=by
  intro n hl
  cases ea:assoc e.res.blocks n with
  |some k=>
   have hn:(assoc e.res.blocks n).isSome=true:=by rw[ea];rfl
   exact⟨by rw[h3at n hn,E0];exact hl,by rw[φ2at n hn]⟩
  |none=>
   rw[resOut n ea]at hl
   cases hgl:bH n with
   |false=>rw[hcx n hgl]at hl;cases hl
   |true=>
    have hr:cn nm n=n:=by
     have:assoc nm n=none:=by
      cases eb:assoc nm n with
      |none=>rfl
      |some q=>have:n∈nm.map (·.1):=kj.2 (by rw[eb];rfl);rw[hfst]at this;have:=kj.1 this;rw[ea]at this;cases this
     simp[cn,this]
    rw[hr];have hst:(st.h n).live=true:=by rw[(m.gl n hgl).1];exact hl
    refine⟨live3 n hst,?_⟩;have hkg:pv (φ' n)=pv (c9 φ r n):=mR.kp n (by simp[bZ,hgl]) (by rw[resOut n ea];exact hl);rw[φ2old n hst,hkg]
    have:assoc r.map n=none:=by
     cases eb:assoc r.map n with
     |none=>rfl
     |some q=>have:=hnm.aB n (hnm.blocks _ (cV eb));rw[this]at hgl;cases hgl
    simp[c9,this]
 have relC2:∀{c:C}{x:Value},(e.res.flat=false\/c.flat=true)->aQ S' w' φ' (e.res.st cx.aB o).h c x->aQ S2 w' φ2 h3 (uG nm c) x:=by
  intro c x hf hr;rcases hf with hf|hf
  . exact aQ.ren (λh=>Rep.mono (λg hg=>.inr ⟨hf,hg⟩) (λ_ _=>rfl) h) (λg hg=>.inr ⟨hf,hg⟩) (λa vs hm _=>hm) names hr
  . exact aQ.Tx names hf hr
 have flatTB:e.res.flat=true->(e.res.temps.all (λp=>p.2.flat)=true/\e.res.blocks.all (λp=>p.2.flat)=true):=by intro h;simpa only[Spec.flat,aH]using h
 have okc:∀g,cx'.ok g->w.heap.size≤g\/∃j,j∈bP r.map/\(st.h j).mut=true/\Bk (φ j) g:=λg hg=>hg.imp id (ownM g)
 have okUp:∀g,cx'.ok g->cx.ok g:=by
  intro g hg;rcases okc g hg with h|⟨j,_,hj2,hj3⟩
  . exact .inl (o6 m.keep.size h)
  . exact gj hj2 (m.b j) hj3
 have notOwn1:∀g,S1 g->¬cx'.own g:=by intro g hg ho;obtain⟨j,hj1,hj2,hj3⟩:=ownM g ho;exact m1.sep j g (by rw[act1 j hj1];exact hj2) hj3 hg
 have keep1:∀g,S1 g->w'.heap[g]? =w.heap[g]? :=λg hg=>mR.keep.block g (m1.lt g hg) (notOwn1 g hg)
 have otherBlk:∀j g,(st.h j).mut=true->j∉bP r.map->Bk (φ j) g->g<w.heap.size/\¬cx'.own g:=by intro j g hj hja hg;refine⟨m.iS hj hg,λho=> ?_⟩;obtain⟨q,hq1,hq2,hq3⟩:=ownM g ho;exact m.apart j q g (λe=>hja (e▸hq1)) hj hq2 hg hq3
 have lat:bE S S2 w w' φ φ2 st.h h3:=⟨λg hg=>.inl (hS1 g hg),λg hg=>keep1 g (hS1 g hg),λn hn=>⟨live3 n hn,φ2old n hn⟩⟩
 have mut3:∀j,(h3 j).mut=true->(∃n,(assoc e.res.blocks n).isSome=true/\cn nm n=j)\/((h1 j).mut=true/\(st.h j).mut=true/\j∉bP r.map):=by
  intro j hj;by_cases hit:∃n,(assoc e.res.blocks n).isSome=true/\cn nm n=j
  . exact .inl hit
  . rw[h3out j λn hn hj=>hit ⟨n,hn,hj⟩]at hj;by_cases ha:j∈bP r.map
    . rw[(eL r.map h1 j).1 ha]at hj;cases hj
    . rw[(eL r.map h1 j).2 ha]at hj;exact .inr ⟨hj,hmut1 j hj,ha⟩
 have okAt:∀n g,(assoc e.res.blocks n).isSome=true->Bk (φ' n) g->cx'.ok g:=λn g hn hg=>gj (resMut n hn) (mR.b n) hg
 have m3:aY cx φ2 S2 h3 w':=by
  refine⟨λj=> ?_,λj k g hjk hj hkk hgj hgk=> ?_,λj g hj hg hS=> ?_,λg hS hlt=> ?_,λg hS=> ?_,λg hgl hl=> ?_,λj hgl=> ?_,λj hkp hl=> ?_,?_⟩
  . by_cases hit:∃n,(assoc e.res.blocks n).isSome=true/\cn nm n=j
    . obtain⟨n,hn,rfl⟩:=hit;rw[h3at n hn,φ2at n hn];have hb:=mR.b n;have hm:=resMut n hn
      cases eb:(e.res.st cx.aB o).h n with
      |row e' u l=>
       rw[eb]at hb;obtain⟨a1,flat,a2,a3,a4⟩:=hb;refine⟨a1,flat,a2,?_,λg hg=>okUp g (a4 g hg)⟩
       cases hf:e.res.flat with
       |false=>exact a3.mono λ_ _ hr=>Rep.mono (λg hg=>.inr ⟨hf,hg⟩) (λ_ _=>rfl) hr
       |true=>exact U.sH ((gz cx.aB o.2 (flatTB hf).2 hn).1 _ _ _ eb) a3
      |box t cs=>
       rw[eb]at hb;obtain⟨g,vals,a1,a2,a3,a4⟩:=hb;refine⟨g,vals,a1,a2,aW.yl (λc hc x hx=>relC2 ?_ hx) a3,okUp g a4⟩
       cases hf:e.res.flat with
       |false=>exact .inl rfl
       |true=>exact .inr ((gz cx.aB o.2 (flatTB hf).2 hn).2.1 _ _ eb c hc)
      |own t oo l=>
       rw[eb]at hb;obtain⟨s,F,a1,a2,a3,a4⟩:=hb;refine⟨s,F,a1,?_,a3,λg hg=>okUp g (a4 g hg)⟩
       cases hf:e.res.flat with
       |false=>exact a2.mono (λx vs F hq h=>bC.mono (λg hg=>.inr ⟨hf,hg⟩) (λ_ _=>rfl) hq h) (λ_ _=>rfl)
       |true=>
        have hof:=(gz cx.aB o.2 (flatTB hf).2 hn).2.2.1 _ _ _ eb;obtain⟨flat,F',hn',ho,hl,hF⟩:=a2;exact⟨flat,F',hn',ho,hl.mono (Q:=λ_=>True) (λx vs F _ h=>O.sH hof h) (λ_ _=>trivial),hF⟩
      |mp t ka va ku vu l=>
       rw[eb]at hb;obtain⟨a1,a2,a3⟩:=hb;refine⟨a1,a2,?_⟩;rcases a3 with a3|⟨r0,es,clock,b1,b2,b3,b4⟩
       . exact .inl a3
       . refine .inr ⟨r0,es,clock,b1,b2,?_,okUp r0 b4⟩
         cases hf:e.res.flat with
         |false=>exact b3.mono λ_ _ h=>⟨h.1.mono (λg hg=>.inr ⟨hf,hg⟩) (λ_ _=>rfl),h.2.mono (λg hg=>.inr ⟨hf,hg⟩) (λ_ _=>rfl)⟩
         |true=>exact b3.mono λ_ _ h=>⟨h.1.flat a1,h.2.flat ((gz cx.aB o.2 (flatTB hf).2 hn).2.2.2.1 _ _ _ _ _ _ eb)⟩
      |mr t ka ku ee u l=>
       rw[eb]at hb;obtain⟨a1,r0,es,clock,F,b1,b2,b3,b4,b5,b6,b7⟩:=hb;refine⟨a1,r0,es,clock,F,b1,b2,?_,b4,b5,b6,λg hg=>⟨okUp g (b7 g hg).1,(b7 g hg).2⟩⟩
       cases hf:e.res.flat with
       |false=>exact b3.mono (λg hg=>.inr ⟨hf,hg⟩) (λ_ _=>rfl) (λ_ _=>rfl)
       |true=>exact b3.flat a1 ((gz cx.aB o.2 (flatTB hf).2 hn).2.2.2.2 _ _ _ _ _ _ eb)
      |opn t oo l i cs=>exact absurd eb (tL cx.aB o.2 hn t oo l i cs)
      |free=>rw[eb]at hm;cases hm
      |gone=>rw[eb]at hm;cases hm
      |ro=>rw[eb]at hm;cases hm
      |glo=>rw[eb]at hm;cases hm
    . rw[h3out j λn hn hj=>hit ⟨n,hn,hj⟩];by_cases ha:j∈bP r.map
      . rw[(eL r.map h1 j).1 ha];trivial
      . rw[(eL r.map h1 j).2 ha]
        cases hl:(h1 j).live with
        |false=>cases eb:h1 j<;>rw[eb]at hl<;>first|trivial|cases hl
        |true=>
         rw[φ2keep j (by rw[<-hlat1];exact hl) ha];refine ci.mono (λg hg=>.inl hg) keep1 (λn hn=> ?_) (λhm g hg=> ?_) (m1.b j)
         . rw[hlat1]at hn;exact⟨live3 n hn,φ2old n hn⟩
         . obtain⟨q1,q2⟩:=otherBlk j g (hmut1 j hm) ha hg;exact mR.keep.block g q1 q2
  . rcases mut3 j hj with⟨a,ha,rfl⟩|⟨j1,j2,j3⟩
    . rw[φ2at a ha]at hgj;rcases mut3 k hkk with⟨b,hb,rfl⟩|⟨k1,k2,k3⟩
      . rw[φ2at b hb]at hgk;exact mR.apart a b g (λe=>hjk (by rw[e])) (resMut a ha) (resMut b hb) hgj hgk
      . rw[φ2keep k (bM k2) k3]at hgk;obtain⟨q1,q2⟩:=otherBlk k g k2 k3 hgk;rcases okAt a g ha hgj with h|h
        . exact absurd h (Nat.not_le.2 q1)
        . exact q2 h
    . rw[φ2keep j (bM j2) j3]at hgj;obtain⟨q1,q2⟩:=otherBlk j g j2 j3 hgj;rcases mut3 k hkk with⟨b,hb,rfl⟩|⟨k1,k2,k3⟩
      . rw[φ2at b hb]at hgk;rcases okAt b g hb hgk with h|h
        . exact absurd h (Nat.not_le.2 q1)
        . exact q2 h
      . rw[φ2keep k (bM k2) k3]at hgk;exact m.apart j k g hjk j2 k2 hgj hgk
  . rcases mut3 j hj with⟨a,ha,rfl⟩|⟨j1,j2,j3⟩
    . rw[φ2at a ha]at hg;rcases hS with hS|⟨_,hS⟩
      . rcases okAt a g ha hg with h|h
        . exact absurd (m1.lt g hS) (Nat.not_lt.2 h)
        . exact notOwn1 g hS h
      . exact mR.sep a g (resMut a ha) hg hS
    . rw[φ2keep j (bM j2) j3]at hg;obtain⟨q1,q2⟩:=otherBlk j g j2 j3 hg;rcases hS with hS|⟨hf,hS⟩
      . exact m1.sep j g j1 hg hS
      . rcases mR.inS g hS q1 with h|h
        . rcases h with h|⟨k',hk1,hk2,hk3⟩
          . exact m.sep j g j2 hg h
          . by_cases ejk:j=k'
            . subst ejk;have hr:=hrow1 hf j hk2;have hk':h1 j=st.h j\/h1 j=(st.h j).freeze:=by rw[hh1,hf];exact rQ _ _ _
              rcases hk' with q|q
              . rw[q,hk1]at hr;cases hr
              . rw[q]at j1;cases es:st.h j<;>rw[es]at j1 hk1<;>first|(cases j1;done)|cases hk1
            . exact m.apart j k' g ejk j2 (by cases es:st.h k'<;>rw[es]at hk1<;>first|rfl|cases hk1) hg hk3
        . exact q2 h
  . rcases hS with hS|⟨_,hS⟩
    . exact m1.inS g hS hlt
    . rcases mR.inS g hS (r8 hlt m.keep.size)with h|h
      . rcases h with h|⟨k',hk1,_,hk3⟩
        . exact m.inS g h hlt
        . rcases gj (by cases es:st.h k'<;>rw[es]at hk1<;>first|rfl|cases hk1) (m.b k') hk3 with h|h
          . omega
          . exact .inr h
      . obtain⟨q,_,hq2,hq3⟩:=ownM g h;rcases gj hq2 (m.b q) hq3 with h|h
        . omega
        . exact .inr h
  . rcases hS with hS|⟨_,hS⟩
    . exact r8 (m1.lt g hS) mR.keep.size
    . exact mR.lt g hS
  . have hst:(st.h (cU g)).live=true:=by rw[<-hlat1,<-glob3 _ hgl];exact hl
    rw[φ2old _ hst];exact m.aB g hgl hst
  . rw[glob3 j hgl];exact m1.gl j hgl
  . cases hst:(st.h j).live with
    |true=>rw[φ2old j hst];exact m.kp j hkp hst
    |false=>
     exfalso;by_cases hit:∃n,(assoc e.res.blocks n).isSome=true/\cn nm n=j
     . obtain⟨n,hn,rfl⟩:=hit;rcases ncase n hn with⟨q,_,hq2,hq3,_⟩|⟨_,_,hq3⟩
       . rw[hq2,bM hq3]at hst;cases hst
       . rw[hq3]at hkp;cases hkp
     . rw[h3out j λn hn hj=>hit ⟨n,hn,hj⟩]at hl;have ha:j∉bP r.map:=λha=>by rw[bM (actM j ha)]at hst;cases hst
       rw[(eL r.map h1 j).2 ha,hlat1,hst]at hl;cases hl
  . exact m.keep.step mR.keep.os mR.keep.tape mR.keep.output mR.keep.size λg hg hno=>mR.keep.block g hg λho=>hno (okUp g (.inr ho))
 refine⟨_,_,φ2,S2,val,hk,rfl,m3,rfl,lat,LI (λy hy x hx=> ?_) hval⟩
 have hyf:e.res.flat=false\/∀c∈y.cells,c.flat=true:=by
  cases hf:e.res.flat with
  |false=>exact .inl rfl
  |true=>exact .inr (Bf (flatTB hf).1 y hy)
 cases y with
 |c c=>exact relC2 (hyf.imp id λh=>h c (by simp[W1.cells])) hx
 |agg cs=>obtain⟨vs,hv,ha⟩:=hx;exact⟨vs,hv,aW.yl (λc hc x hx=>relC2 (hyf.imp id λh=>h c hc) hx) ha⟩
end Go.Proofs.YtlkkaielmdlefaaGreatDoor.R1
