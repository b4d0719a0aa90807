/- Part 2: Regions, code, cuts and functions. -/
import Derived.Test.YtlkkaielmdlefaaGreatDoorR1M1
import Derived.Deep.LoopGhost
import Derived.Orders
import Derived.KernelRfl
set_option linter.unusedVariables false
namespace Go.Proofs.YtlkkaielmdlefaaGreatDoor.R1
variable {P : Program} {ρ : Type}
def gS (P:Program)(e:af):Prop:=∃fn,P.funcs[e.id]? =some fn/\(fn.name== "runtime.NumGoroutine")=false/\fn.body.isNone=false
structure Tab (P:Program)(cfg:Cfg):Prop where
 tt:cg P cfg.tt
 fns:∀e∈cfg.fns,gS P e/\gy P cfg.aB cfg.k e
 aB:∀n,bH n=false->cfg.aB n=.free
theorem o8 {cx:Cx}{φ:Nat->Value}{S:Nat->Prop}{w:World}{st:St}(m:aY cx φ S st.h w){args:List V}{xs:List Value}(ha:aW (bB S w φ st.h) args xs)
    (hcx:∀n,bH n=false->cx.aB n=.free) {k dst f:Nat} {κ:V->St->Option ρ} {r0:ρ}:∀{es:List af},(∀e∈es,gS P e/\gy P cx.aB k e)->gf k st dst f args κ es=some r0->
    (∃fn,P.funcs[f]? =some fn/\(fn.name== "runtime.NumGoroutine")=false/\fn.body.isNone=false)/\
    Calls P f xs.toArray w λen w'=>∃vv st' φ' S' val,κ vv st'=some r0/\en=.returned val/\aY cx φ' S' st'.h w'/\st'.t=st.t/\bE S S' w w' φ φ' st.h st'.h/\bB S' w' φ' st'.h vv val
 |[],_,h=>by cases h
 |e::es,he,h=>by
  simp only[gf]at h;split at h
  . rename_i q;have q:=aR q;subst q;obtain⟨h1,h2⟩:=he e (by simp);exact⟨h1,BH hcx m ha h2 (λh=>(o8 m ha hcx (λe he'=>he e (bk _ he')) h).2) h⟩
  . exact o8 m ha hcx (λe he'=>he e (bk _ he')) h
theorem Jv {S:Nat->Prop}{w:World}{φ:Nat->Value}{h:Nat->B}:∀{g:C}{acc:List V}{xs:List Value}{n:Nat}{caps:List V}{f:Fn}{cs:Array Value},pI g acc=some (n,caps)->aQ S w φ h g (.func f #[] cs)->aW (bB S w φ h) acc xs->
    f=.func n/\aW (bB S w φ h) caps (cs.toList++xs):=by
 intro g
 induction g with
 |fn k=>
  intro acc xs n caps f cs ho hr ha;simp only[pI]at ho;injection ho with ho;injection ho with h1 h2;subst h1;subst h2;have hr:Value.func f #[] cs=.func (.func k) #[] #[]:=hr;injection hr with e1 _ e3;subst e3;exact⟨e1,by simpa using ha⟩
 |cap g c ih _=>
  intro acc xs n caps f cs ho hr ha;simp only[pI]at ho;obtain⟨f',cs',x,h1,h2,hv⟩:=hr;injection hv with e1 _ e3;subst e1;subst e3;obtain⟨r1,r2⟩:=ih (xs:=x::xs) ho h1 ⟨h2,ha⟩;exact⟨r1,by simpa using r2⟩
 |_=>intro acc xs n caps f cs ho;cases ho
theorem FN {S:Nat->Prop}{w:World}{φ:Nat->Value}{h:Nat->B}:∀{g:C}{acc:List V}{n:Nat}{caps:List V}{v:Value},pI g acc=some (n,caps)->aQ S w φ h g v->∃f cs,v=.func f #[] cs:=by
 intro g acc n caps v ho hr
 cases g with
 |fn k=>exact⟨_,_,hr⟩
 |cap g c=>obtain⟨f,cs,x,_,_,hv⟩:=hr;exact⟨_,_,hv⟩
 |_=>cases ho
section
variable {cx : Cx} {nt : Nat} {φ : Nat → Value} {S : Nat → Prop} {st : St} {a : Act} {w : World}
theorem Hh {cfg:Cfg}(T:Tab P cfg)(hg:cx.aB=cfg.aB)(m:bA cx nt φ S st a w)(o:Oper){κ:V->St->Option ρ}{r:ρ}(h:aS cfg st o κ=some r){K:Act->World->Prop}{Q:Exit->Act->World->Prop}
    (hK:∀vv st' φ' S' val w',κ vv st'=some r->aY cx φ' S' st'.h w'->st'.t=st.t->bE S S' w w' φ φ' st.h st'.h->bB S' w' φ' st'.h vv val->K (a.put o.dst val) w'):o.wp P a w K Q:=by
 by_cases hcall:∃c f,o.op=.call c/\c.callee=.value f
 . obtain⟨c,f,ho,hc⟩:=hcall;obtain⟨callee,args,argTypes⟩:=c;simp only at hc;subst hc;simp only[aS,ho]at h;split at h
   . rename_i g eg;split at h
     . rename_i n caps eo;have hgr:=kc m eg;obtain⟨f',cs,hv⟩:=FN eo hgr;rw[hv]at hgr;obtain⟨rfl,hcaps⟩:=Jv eo hgr (show aW (bB S w φ st.h) [] []from trivial);have hall:=(qk m args.toList).append hcaps;obtain⟨⟨fn,hf1,hf2,hf3⟩,hcalls⟩:=o8 (P:=P) m.m hall (by rw[hg];exact T.aB) (by rw[hg];exact T.fns) h;have hargs:(args.toList.map a.eval++(cs.toList++[])).toArray=args.map a.eval++cs:=by apply Array.ext';simp
       rw[hargs]at hcalls
       have hrun:(execOp a.eval o).run P w=.ok (.enter n (args.map a.eval++cs)) w:=by
        have hf2':¬fn.name= "runtime.NumGoroutine" :=by simpa using hf2
        obtain⟨bd,hf4⟩:∃bd,fn.body=some bd:=by cases hb:fn.body with
         |none=>rw[hb]at hf3;cases hf3
         |some bd=>exact⟨bd,rfl⟩
        simp[execOp,ho,resolve,hv,Deferred.ofValue,invoke,callFunc,hf1,hf2',hf4]
       unfold Oper.wp;rw[hrun,Oper.upon_enter];refine hcalls.mono λen w' hh=> ?_
       obtain⟨vv,st',φ',S',val,h1,rfl,h3,h4,h5,h6⟩:=hh;exact hK vv st' φ' S' val w' h1 h3 h4 h5 h6
     . cases h
   . cases h
 . obtain⟨v,st',φ',S',v',w',h1,h2,h3,h4,h5,h6⟩:=KI T.tt m o (λc f hc hf=>hcall ⟨c,f,hc,hf⟩) h;unfold Oper.wp;rcases h2 with h2|⟨h2,rfl⟩
   . rw[h2];exact hK v st' φ' S' v' w' h1 h3 h4 h5 h6
   . rw[h2];exact hK v st' φ' S' undef w' h1 h3 h4 h5 h6
theorem bA.later {φ':Nat->Value}{S':Nat->Prop}{st':St}{w':World}(m:bA cx nt φ S st a w)(h:aY cx φ' S' st'.h w')(ht:st'.t=st.t)(l:bE S S' w w' φ φ' st.h st'.h):bA cx nt φ' S' st' a w':=
 ⟨λi=>by rw[ht];exact l.OX (m.t i),h,m.size,m.defers⟩
theorem bA.put {cfg:Cfg}(hn:cfg.n=nt)(m:bA cx nt φ S st a w){d:Option Nat}{v:V}{val:Value}(hv:bB S w φ st.h v val){κ:St->Option ρ}{r:ρ}(h:put cfg st d v κ=some r):
    ∃st',κ st'=some r/\bA cx nt φ S st' (a.put d val) w:=by
 unfold R1.put at h
 cases d with
 |none=>exact⟨st,h,m⟩
 |some d=>
  simp only at h;split at h
  . rename_i hd;have hd:d<cfg.n:=by rwa[dM]at hd
    refine⟨_,h,λi=> ?_,m.m,by simp[Act.put,m.size],m.defers⟩;show bB S w φ st.h (upd st.t d v i) ((a.put (some d) val).tmps.getD i undef);by_cases e:i=d
    . subst e;rw[aj];have:(a.put (some i) val).tmps.getD i undef=val:=by simp[Act.put,m.size,<-hn,hd]
      rw[this];exact hv
    . rw[az _ _ e];have:(a.put (some d) val).tmps.getD i undef=a.tmps.getD i undef:=by simp[Act.put,Array.getElem?_setIfInBounds_ne (Ne.symm e)]
      rw[this];exact m.t i
  . cases h
theorem bA.lit {d:Nat}{b:Bool}(m:bA cx nt φ S st a w)(hd:st.t d=.v (.c (.bool b))){c:Bool}(hc:b=c):bA cx nt φ S {st with t:=upd st.t d (.v (.c (.bool c)))} a w:=by
 subst hc;refine⟨λi=> ?_,m.m,m.size,m.defers⟩;by_cases e:i=d
 . subst e;have h:bB S w φ st.h (upd st.t i (.v (.c (.bool b))) i) (a.tmps.getD i undef):=by rw[aj];have:=m.t i;rw[hd]at this;exact this
   exact h
 . have h:bB S w φ st.h (upd st.t d (.v (.c (.bool b))) i) (a.tmps.getD i undef):=by rw[az _ _ e];exact m.t i
   exact h
theorem qR {ops:Array Oper}{o:Oper}{j d:Nat}{want b:Bool}(hg:o.guard=some (j,want))(hj:(ops.toList[j]?).bind (·.dst)=some d)(hd:a.tmps.getD d undef=.bool b):Region.wanted o (yielded ops a.tmps)=(b==want):=by
 have h1:(ops[j]?).bind (·.dst)=some d:=by simpa using hj
 have h2:a.tmps[d]? =some (.bool b):=by
  cases e:a.tmps[d]? with
  |none=>simp[e,undef]at hd
  |some v=>simp[e]at hd;rw[hd]
 simp only[Region.wanted,hg,yielded,h1,aa,h2];cases b<;>cases want<;>rfl
theorem yP {ops:Array Oper}{o:Oper}{j d:Nat}{want:Bool}(hg:o.guard=some (j,want))(hj:(ops.toList[j]?).bind (·.dst)=some d)(hd:a.tmps.getD d undef=undef):Region.wanted o (yielded ops a.tmps)=false:=by
 have h1:(ops[j]?).bind (·.dst)=some d:=by simpa using hj
 simp only[Region.wanted,hg,yielded,h1,aa]
 cases e:a.tmps[d]? with
 |none=>rfl
 |some v=>simp[e]at hd;rw[hd];rfl
end
theorem qE {cfg:Cfg}(T:Tab P cfg){cx:Cx}(hg:cx.aB=cfg.aB){nt:Nat}(hn:cfg.n=nt){ops:Array Oper}{Q:Exit->Act->World->Prop}{κ:St->Option ρ}{r:ρ}
    (hQ:∀st' φ' S' a' w',κ st'=some r->bA cx nt φ' S' st' a' w'->Q .normal a' w'):
    ∀(l:List Oper){φ:Nat->Value}{S:Nat->Prop}{st:St}{a:Act}{w:World},bA cx nt φ S st a w->kZ cfg ops.toList l st κ=some r->wpList P ops Q l a w
 |[],φ,S,st,a,w,m,h=>hQ st φ S a w h m
 |o::l,φ,S,st,a,w,m,h=>by
  have run:∀{φ:Nat->Value}{S:Nat->Prop}{st:St}{a:Act}{w:World},bA cx nt φ S st a w->(aS cfg st o λv st=>put cfg st o.dst v λst=>kZ cfg ops.toList l st κ)=some r->o.wp P a w (wpList P ops Q l) Q:=by
   intro φ S st a w m h;refine Hh T hg m o h λvv st' φ' S' val w' h1 h2 h3 h4 h5=> ?_
   obtain⟨st2,h6,m2⟩:=(m.later h2 h3 h4).put hn h5 h1;exact qE T hg hn hQ l m2 h6
  have skip:∀{φ:Nat->Value}{S:Nat->Prop}{st:St}{a:Act}{w:World},bA cx nt φ S st a w->(put cfg st o.dst .und λst=>kZ cfg ops.toList l st κ)=some r->wpList P ops Q l (a.put o.dst undef) w:=by intro φ S st a w m h;obtain⟨st2,h6,m2⟩:=m.put hn (show bB S w φ st.h .und undef from rfl) h;exact qE T hg hn hQ l m2 h6
  simp only[kZ]at h;unfold wpList;split at h
  . rename_i eg;rw[ah (by simp[Region.wanted,eg])];exact .inl (run m h)
  . rename_i j want eg;split at h
    . cases h
    . rename_i d ed;split at h
      . rename_i b eb;have hb:a.tmps.getD d undef=.bool b:=by have:=m.t d;rw[eb]at this;exact this
        rw[qR eg ed hb]
        cases b with
        |true=>
         simp only[ab]at h;have m':=m.lit (c:=true) eb rfl
         cases want with
         |true=>simp only[BEq.rfl,fI];exact .inl (run m' h)
         |false=>simp only[Bool.true_beq,jg,iJ];exact skip m' h
        |false=>
         simp only[ac]at h;have m':=m.lit (c:=false) eb rfl
         cases want with
         |true=>simp only[Bool.false_beq,bi,jg,iJ];exact skip m' h
         |false=>simp only[BEq.rfl,fI];exact .inl (run m' h)
      . rename_i eb;have hb:a.tmps.getD d undef=undef:=by have:=m.t d;rw[eb]at this;exact this
        rw[yP eg ed hb];simp only[jg,iJ];exact skip m h
      . cases h
end Go.Proofs.YtlkkaielmdlefaaGreatDoor.R1
namespace Go.Proofs.YtlkkaielmdlefaaGreatDoor.R1
variable {P : Program} {ρ : Type}
def Out.IQ :Out->Exit
 |.normal=>.normal
 |.exit i=>.exit i
 |.ret=>.ret
theorem Out.Tz {o o':Out}(h:o.same o'=true):o=o':=by
 cases o<;>cases o'<;>first|rfl|cases h|exact congrArg _ (aR h)
def aF (cfg:Full)(ct:Cut)(b:Code):Prop:=
 ∀(ρ:Type)(v:ct.sp.V)(nx:NxT ρ ct.outs),ct.F ρ 0 v nx=none/\
  ∀k,ct.F ρ (k+1) v nx=evC cfg b (ct.sp.st cfg.aB v) λo st=>match o with
   |.normal=>match ct.sp.own st with
    |some v=>ct.F ρ k v nx
    |none=>none
   |o=>yi ct.outs nx o st
def dh (cfg:Full)(ct:Cut)(b:Code):Prop:=
 ∀(ρ:Type)(v:ct.sp.V)(nx:NxT ρ ct.outs),ct.F ρ cfg.k v nx=evC cfg b (ct.sp.st cfg.aB v) λo st=>yi ct.outs nx o st
def Obl (cfg:Full):Code->Prop
 |.seq a b=>Obl cfg a/\Obl cfg b/\match fk b with
  |some i=>match assoc cfg.joins i with
   |some ct=>dh cfg ct b
   |none=>True
  |none=>True
 |.cond _ x y=>Obl cfg x/\Obl cfg y
 |.block _ b=>Obl cfg b
 |.loop b=>Obl cfg b/\match rT b with
  |some i=>match assoc cfg.cuts i with
   |some ct=>aF cfg ct b
   |none=>True
  |none=>True
 |_=>True
theorem nY {aB:Nat->B}{κ:Out->St->Option ρ}{o:Out}{st:St}{r:ρ}:∀{outs:List (Out×Spec)},yi outs (EM aB κ outs) o st=some r->∃(s:Spec)(v:s.V),s.own st=some v/\κ o (s.st aB v)=some r
 |[],h=>by cases h
 |(o',s)::outs,h=>by
  simp only[yi,EM]at h
  cases e:o'.same o with
  |true=>
   rw[e]at h;simp only[ab]at h;have:=Out.Tz e;subst this;split at h
   . rename_i v eq;exact⟨s,v,eq,h⟩
   . cases h
  |false=>rw[e]at h;exact nY h
theorem bA.cut {cx:Cx}(hcx:∀n,bH n=false->cx.aB n=.free){nt:Nat}{φ:Nat->Value}{S:Nat->Prop}{st:St}{a:Act}{w:World}(m:bA cx nt φ S st a w){s:Spec}{v:s.V}(h:s.own st=some v):
    ∃φ' S',bA cx nt φ' S' (s.st cx.aB v) a w:=by
 obtain⟨φ',S',h1,h2⟩:=A0 hcx m.m m.t h;exact⟨φ',S',h2,h1,m.size,m.defers⟩
theorem bA.fJ {cx:Cx}{nt:Nat}{φ:Nat->Value}{S:Nat->Prop}{st:St}{a:Act}{w:World}(m:bA cx nt φ S st a w)(cfg:Cfg)(id:Nat):∃φ',bA cx nt φ' S (fJ cfg id st) a w:=by
 unfold R1.fJ;split
 . rename_i ns _;obtain⟨φ',m',l⟩:=m.m.fJ ns;exact⟨φ',λi=>l.OX (m.t i),m',m.size,m.defers⟩
 . exact⟨φ,m⟩
def xo (P:Program):Prop:=∀{ρ:Type}{cfg:Cfg}(_:Tab P cfg){cx:Cx}(_:cx.aB=cfg.aB){nt:Nat}(_:cfg.n=nt){id:Nat}{ops:Array Oper}{Q:Exit->Act->World->Prop}{κ:St->Option ρ}{r:ρ}
    (_:∀st' φ' S' a' w',κ st'=some r->bA cx nt φ' S' st' a' w'->Q .normal a' w') {φ:Nat->Value} {S:Nat->Prop} {st:St} {a:Act} {w:World},bA cx nt φ S st a w->Eo cfg id ops.toList st κ=some r->(Code.region id ops true).wp P Q a w
theorem KH (hdraw:xo P){cx:Cx}{nt:Nat}:∀(c:Code){cfg:Full},Tab P cfg.toCfg->cx.aB=cfg.aB->cfg.n=nt->Obl cfg c->∀{ρ:Type}{κ:Out->St->Option ρ}{r:ρ}{Q:Exit->Act->World->Prop},
    (∀o st φ S a w,κ o st=some r->bA cx nt φ S st a w->Q o.IQ a w)->∀{φ:Nat->Value}{S:Nat->Prop}{st:St}{a:Act}{w:World},bA cx nt φ S st a w->evC cfg c st κ=some r->c.wp P Q a w:=by
 intro c
 induction c with
 |skip=>intro cfg _ _ _ _ ρ κ r Q hQ φ S st a w m h;exact wp_skip (hQ .normal st φ S a w h m)
 |exit i=>intro cfg _ _ _ _ ρ κ r Q hQ φ S st a w m h;exact wp_exit (hQ (.exit i) st φ S a w h m)
 |ret=>intro cfg _ _ _ _ ρ κ r Q hQ φ S st a w m h;exact wp_ret (hQ .ret st φ S a w h m)
 |region id ops draw=>
  intro cfg hT hg hn _ ρ κ r Q hQ φ S st a w m h;have T:Tab P cfg.toCfg:=hT
  cases draw with
  |false=>exact wp_region_list (qE (κ:=λst=>κ .normal (R1.fJ cfg.toCfg id st)) T hg hn (λst' φ' S' a' w' h m=>by obtain⟨φ2,m2⟩:=m.fJ cfg.toCfg id;exact hQ .normal _ φ2 S' a' w' h m2) _ m h)
  |true=>exact hdraw (κ:=λst=>κ .normal (R1.fJ cfg.toCfg id st)) T hg hn (λst' φ' S' a' w' h m=>by obtain⟨φ2,m2⟩:=m.fJ cfg.toCfg id;exact hQ .normal _ φ2 S' a' w' h m2) m h
 |cond x t f iht ihf=>
  intro cfg hT hg hn ho ρ κ r Q hQ φ S st a w m h;simp only[evC]at h;split at h
  . rename_i b eb;have hb:a.eval x=.bool b:=bO m eb
    cases b with
    |true=>exact wp_cond_true hb (iht hT hg hn ho.1 hQ m h)
    |false=>exact wp_cond_false hb (ihf hT hg hn ho.2 hQ m h)
  . cases h
 |block i b ih=>
  intro cfg hT hg hn ho ρ κ r Q hQ φ S st a w m h;simp only[evC]at h;refine wp_block (ih hT hg hn ho (Q:=Exit.inBlock i Q) (λo st φ S a w hk m=> ?_) m h)
  cases o with
  |normal=>exact hQ .normal st φ S a w hk m
  |ret=>exact hQ .ret st φ S a w hk m
  |exit j=>
   simp only[Out.IQ,Exit.inBlock];simp only at hk
   cases e:Nat.beq j i with
   |true=>rw[e]at hk;rw[ah (aR e)];exact hQ .normal st φ S a w hk m
   |false=>rw[e]at hk;rw[ae (λq=>by rw[q,jj]at e;cases e)];exact hQ (.exit j) st φ S a w hk m
 |seq x y ihx ihy=>
  intro cfg hT hg hn ho ρ κ r Q hQ φ S st a w m h;simp only[evC]at h;obtain⟨ho1,ho2,ho3⟩:=ho;refine wp_seq (ihx hT hg hn ho1 (Q:=Exit.then (y.wp P Q) Q) (λo st φ S a w hk m=> ?_) m h)
  cases o with
  |exit i=>exact hQ (.exit i) st φ S a w hk m
  |ret=>exact hQ .ret st φ S a w hk m
  |normal=>
   simp only[Out.IQ,Exit.then];simp only at hk
   cases e1:fk y with
   |none=>rw[e1]at hk;exact ihy hT hg hn ho2 hQ m hk
   |some i=>
    rw[e1]at hk ho3;simp only[aa]at hk
    cases e2:assoc cfg.joins i with
    |none=>rw[e2]at hk;exact ihy hT hg hn ho2 hQ m hk
    |some ct=>
     rw[e2]at hk;simp only[e2]at ho3;simp only[enter]at hk;split at hk
     . rename_i v ev;obtain⟨φ2,S2,m2⟩:=m.cut (by rw[hg];exact hT.aB) ev;rw[hg]at m2;rw[ho3]at hk;refine ihy hT hg hn ho2 (λo st φ S a w hk m=> ?_) m2 hk;obtain⟨s,v,es,hs⟩:=nY hk;obtain⟨φ3,S3,m3⟩:=m.cut (by rw[hg];exact hT.aB) es;rw[hg]at m3;exact hQ o _ φ3 S3 a w hs m3
     . cases hk
 |loop b ih=>
  intro cfg hT hg hn ho ρ κ r Q hQ φ S st a w m h;simp only[evC]at h;obtain⟨ho1,ho2⟩:=ho;have hcx:∀n,bH n=false->cx.aB n=.free:=by rw[hg];exact hT.aB
  cases e1:rT b with
  |none=>rw[e1]at h;cases h
  |some i=>
   rw[e1]at h ho2;simp only[aa]at h
   cases e2:assoc cfg.cuts i with
   |none=>rw[e2]at h;cases h
   |some ct=>
    rw[e2]at h;simp only[e2]at ho2;simp only[enter]at h;split at h
    . rename_i v ev;obtain⟨φ2,S2,m2⟩:=m.cut hcx ev;refine wp_loop_ghost (λn a w=>∃φ S v,bA cx nt φ S (ct.sp.st cx.aB v) a w/\ct.F ρ n v (EM cfg.aB κ ct.outs)=some r) cfg.k ⟨φ2,S2,v,m2,h⟩ ?_;rintro n a w ⟨φ,S,v,m,h⟩
      cases n with
      |zero=>rw[(ho2 ρ v _).1]at h;cases h
      |succ n=>
       rw[(ho2 ρ v _).2 n]at h;rw[hg]at m;refine ih hT hg hn ho1 (λo st φ S a w hk m=> ?_) m h
       . cases o with
         |normal=>
          simp only at hk;split at hk
          . rename_i v ev;obtain⟨φ3,S3,m3⟩:=m.cut hcx ev;exact⟨n,Nat.lt_succ_self n,φ3,S3,v,m3,hk⟩
          . cases hk
         |exit j=>
          obtain⟨s,v,es,hs⟩:=nY hk;obtain⟨φ3,S3,m3⟩:=m.cut hcx es;rw[hg]at m3;exact hQ (.exit j) _ φ3 S3 a w hs m3
         |ret=>obtain⟨s,v,es,hs⟩:=nY hk;obtain⟨φ3,S3,m3⟩:=m.cut hcx es;rw[hg]at m3;exact hQ .ret _ φ3 S3 a w hs m3
    . cases h
 |_=>intro cfg _ _ _ _ ρ κ r Q _ φ S st a w _ h;cases h
end Go.Proofs.YtlkkaielmdlefaaGreatDoor.R1
namespace Go.Proofs.YtlkkaielmdlefaaGreatDoor.R1
variable {P : Program} {ρ : Type}
theorem zJ {α β:Type}(f:α->Sem β)(w:World)(l:Array α){ys:List β}(h:(l.toList.mapM f).run P w=.ok ys w):(l.mapM f).run P w=.ok ys.toArray w:=by rw[Array.mapM_eq_mapM_toList];simp[h]
def mG (tmps:Array Value):ResultVar->Sem Value
 |.tmp t=>pure (tmps.getD t undef)
 |.cell a t=>do loadVar t (<-asAddr (tmps.getD a undef))
theorem mF {cfg:Cfg}(hT:cg P cfg.tt){cx:Cx}{nt:Nat}{φ:Nat->Value}{S:Nat->Prop}{st:St}{a:Act}{w:World}(m:bA cx nt φ S st a w):∀{l:List ResultVar}{κ:List V->Option ρ}{r:ρ},mD cfg st l κ=some r->
    ∃vs xs,κ vs=some r/\(l.mapM (mG a.tmps)).run P w=.ok xs w/\aW (bB S w φ st.h) vs xs/\xs.length=l.length
 |[],κ,r,h=>⟨[],[],h,by simp,trivial,rfl⟩
 |.tmp t::l,κ,r,h=>by
  obtain⟨vs,xs,h1,h2,h3,h4⟩:=mF hT m (l:=l) h;exact⟨st.t t::vs,a.tmps.getD t undef::xs,h1,by rw[List.mapM_cons];simp only[mG,Sem.run_bind,Sem.run_pure,Result.andThen_ok,h2],⟨m.t t,h3⟩,by simp[h4]⟩
 |.cell ad t::l,κ,r,h=>by
  simp only[mD]at h;split at h
  . rename_i i c e e0;have hc:aQ S w φ st.h c (a.tmps.getD ad undef):=EY (m.t ad) e0;obtain⟨v,v',h1,h2,h3⟩:=nZ (hT t i e) m.m hc h;obtain⟨vs,xs,h4,h5,h6,h7⟩:=mF hT m (l:=l) h1
    have hp:∃q,a.tmps.getD ad undef=.pointer (some q):=by
     cases c with
     |ptr n i sz off=>obtain⟨_,g,_,hv⟩:=hc;exact⟨_,hv⟩
     |dptr u x off=>obtain⟨b,cs,hv,_⟩:=hc;exact⟨_,hv⟩
     |_=>simp[load]at h
    obtain⟨q,hq⟩:=hp;rw[hq]at h2;have h2':(loadVar t q).run P w=.ok v' w:=by simpa[Instr.loadAt,Instr.sureAddr]using h2
    exact⟨v::vs,v'::xs,h4,by rw[List.mapM_cons];simp only[mG,hq,asAddr,Sem.run_bind,Sem.run_pure,Result.andThen_ok,h2',h5],⟨h3,h6⟩,by simp[h7]⟩
  . cases h
theorem wz :∀{ts:List (Nat×VK)}{n:Nat}(x:nJ ts),sM ts n=true->∀i,i<n\/n+ts.length≤i->gD ts x i=.bad
 |[],_,_,_,_,_=>rfl
 |(j,k)::ts,n,x,hs,i,hi=>by simp only[sM,aH]at hs;have:=aR hs.1;subst this;simp only[gD];simp only[ax]at hi;rw[az _ _ (by omega)];exact wz x.2 hs.2 i (by omega)
theorem Be {S:Nat->Prop}{w:World}{φ:Nat->Value}{h:Nat->B}:∀{ts:List (Nat×VK)}{n:Nat}{x:nJ ts}{xs:List Value}{f:Nat->Value},sM ts n=true->(∀i,n≤i->bB S w φ h (gD ts x i) (f i))->xs.length=ts.length->(∀j v,xs[j]? =some v->f (n+j)=v)->
    aW (gx S w φ h) (lr ts x) xs
 |[],n,x,[],f,_,_,_,_=>trivial
 |(j,k)::ts,n,x,y::xs,f,hs,hr,hl,hf=>by
  simp only[sM,aH]at hs;have:=aR hs.1;subst this;refine⟨?_,Be (f:=f) hs.2 (λi hi=> ?_) (by simpa using hl) λq v hv=> ?_⟩
  . have:=hr j (aM _);simp only[gD,aj]at this;have hy:=hf 0 y rfl;rw[Nat.add_zero]at hy;rw[hy]at this;exact this
  . have:=hr i (by omega);simp only[gD]at this;rwa[az _ _ (by omega)]at this
  . have:=hf (q+1) v hv;rw[<-this];congr 1;omega
 |[],_,_,_::_,_,_,_,hl,_=>by cases hl
 |_::_,_,_,[],_,_,_,hl,_=>by cases hl
theorem Es (hdraw:xo P){cfg:Full}{fn:Func}{e:af}(hf:P.funcs[e.id]? =some fn)(hT:Tab P cfg.toCfg)(hobl:∀c,fn.body=some c->Obl cfg c){k:Nat}
    (hev:∀v,e.f k v=zm cfg fn e.ar e.res (e.ar.st cfg.aB v) some) (hpar:e.ar.blocks.all (λb=>gB b.1)=true):gy P cfg.aB k e:=by
 refine⟨hpar,λv o hv cx φ S w args hg hw hφ0 m ht hsz=> ?_⟩;rw[hev]at hv;unfold zm at hv;split at hv
 case h_2=>cases hv
 rename_i c eb hchk;simp only[aH]at hchk;obtain⟨⟨⟨⟨⟨k1,k2⟩,k3⟩,k4⟩,k5⟩,k6⟩:=hchk;have k2:=aR k2;have k5:=aR k5;have k6:=nu k6;have hcx:∀n,bH n=false->cx.aB n=.free:=by rw[hg];exact hT.aB
 have T0:=hT;refine calls_of_wp hf eb ?_
 have mP:bA cx fn.ntmps φ S (e.ar.st cfg.aB v) {tmps:=args++Array.replicate (fn.ntmps-args.size) undef,defers:=[]} w:=by
  refine⟨λi=> ?_,m,by simp;omega,rfl⟩;by_cases hi:i<args.size
  . have h1:=ht i;have e1:(args++Array.replicate (fn.ntmps-args.size) undef).getD i undef=args.getD i undef:=by simp[Array.getElem?_append,hi]
    show bB S w φ _ _ ((args++Array.replicate (fn.ntmps-args.size) undef).getD i undef);rw[e1];exact h1
  . have:(e.ar.st cfg.aB v).t i=.bad:=wz v.1 k4 i (by omega);rw[this];trivial
 refine KH hdraw c hT hg k5 (hobl c eb) (Q:=bodyPost P fn _) (r:=o) (λo' st φ S a w hk m=> ?_) mP hv
 have fin:∀{ρ':Exit},(mD cfg.toCfg st fn.results.toList λvs=>(e.res.own ⟨ofList vs,st.h⟩).bind some)=some o->a.defers=[]/\∃v,(results fn a.tmps).run P w=.ok v w/\∃φ' S' val,Ending.returned v=.returned val/\aY cx φ' S' (e.res.st cfg.aB o).h w/\bB S' w φ' (e.res.st cfg.aB o).h (zG (lr e.res.temps o.1)) val:=by
  intro _ hk;refine⟨m.defers,?_⟩;obtain⟨vs,xs,h1,h2,h3,h4⟩:=mF T0.tt m hk;obtain⟨v',ev,h1⟩:=bR.1 h1
  . injection h1 with h1;subst h1;obtain⟨φ',S',m',t'⟩:=A0 hcx (st:=⟨ofList vs,st.h⟩) m.m (tv:=λi=>xs.getD i undef) (λi=>wm h3 i) ev;have hlen:xs.length=e.res.temps.length:=by rw[k2,h4,cX]
    have hall:aW (gx S' w φ' (e.res.st cfg.aB v').h) (lr e.res.temps v'.1) xs:=by rw[hg]at t' m';exact Be (n:=0) (f:=λi=>xs.getD i undef) k1 (λi _=>t' i) hlen λj v hv=>by simp[List.getD,hv]
    have hres:(results fn a.tmps).run P w=.ok (if h:xs.toArray.size=1 then xs.toArray[0]else .tuple xs.toArray) w:=by
     have:=zJ (mG a.tmps) w fn.results h2;unfold results;rw[Sem.run_bind];have e3:∀f:ResultVar->Sem Value,(∀x,f x=mG a.tmps x)->fn.results.mapM f=fn.results.mapM (mG a.tmps):=λf hf=>by rw[funext hf]
     rw[e3 _ (λx=>by cases x<;>rfl),this];simp
    refine⟨_,hres,φ',S',_,rfl,by rw[<-hg];exact m',?_⟩;generalize lr e.res.temps v'.1=ws at hall
    cases xs with
    |nil=>cases ws with
     |nil=>exact⟨#[],rfl,trivial⟩
     |cons=>exact hall.elim
    |cons x xs=>cases xs with
     |nil=>cases ws with
      |nil=>exact hall.elim
      |cons y ws=>cases ws with
       |nil=>exact hall.1
       |cons=>exact hall.2.elim
     |cons x2 xs=>cases ws with
      |nil=>exact hall.elim
      |cons y ws=>cases ws with
       |nil=>exact hall.2.elim
       |cons y2 ws=>exact⟨_,by simp,hall⟩
 cases o' with
 |exit i=>cases hk
 |normal=>simp only at hk;exact fin (ρ':=.normal) hk
 |ret=>simp only at hk;exact fin (ρ':=.ret) hk
end Go.Proofs.YtlkkaielmdlefaaGreatDoor.R1
namespace Go.Proofs.YtlkkaielmdlefaaGreatDoor.R1
variable {ρ : Type}
theorem bJ {α β:Type}(c:Bool)(a b:Option α)(f:α->Option β):(bif c then a else b).bind f=bif c then a.bind f else b.bind f:=by cases c<;>rfl
theorem bF {α β γ:Type}(x:Option α)(f:α->Option β)(g:β->Option γ):(x.bind f).bind g=x.bind λy=>(f y).bind g:=by cases x<;>rfl
theorem sK (op:BinOp)(k:IntKind)(x y:Int)(κ:C->Option ρ):iZ op k x y κ=(iZ op k x y some).bind κ:=by
 cases op<;>simp only[iZ,bJ,aa,Option.bind_none]
theorem J1 (op:BinOp)(x y:ByteArray)(κ:C->Option ρ):rY op x y κ=(rY op x y some).bind κ:=by
 cases op<;>simp only[rY,bJ,aa,Option.bind_none]
theorem uU (tt:TT)(t:Nat)(op:BinOp)(x y:V)(κ:C->Option ρ):bin tt t op x y κ=(bin tt t op x y some).bind κ:=by
 unfold bin;split
 . split
   . exact sK ..
   . exact sK ..
   . split
     . exact sK ..
     . rfl
 . exact J1 ..
 . split<;>rfl
 . split<;>rfl
 . split<;>rfl
 . split<;>rfl
 . rfl
theorem yM (op:UnOp)(x:V)(κ:C->Option ρ):un op x κ=(un op x some).bind κ:=by unfold un;split<;>rfl
theorem jb (st:St)(i:TI)(a:C)(κ:V->Option ρ):load st i a κ=(load st i a some).bind κ:=by
 unfold load;split
 . rename_i n j sz off;split
   . split
     . split<;>rfl
     . rfl
   . rename_i u l _;cases Nat.beq sz u.n
     . rfl
     . cases l[j]? with
       |none=>rfl
       |some x=>simp only[ab,aa];split
                . split<;>rfl
                . rfl
   . rename_i u l _;cases Nat.beq sz u.n
     . rfl
     . cases l[j]? with
       |none=>rfl
       |some x=>simp only[ab,aa];split
                . split<;>rfl
                . rfl
   . rename_i o l _;rw[bJ,bF]
     congr 1
     congr 1
     funext x
     split
     . split<;>rfl
     . rfl
   . rw[bJ]
     congr 1
     split
     . split<;>rfl
     . rfl
   . rfl
 . split
   . split<;>rfl
   . rfl
 . rfl
theorem EP (st:St)(i:TI)(a:C)(d:Nat)(κ:V->St->Option ρ):mB st i a d κ=(mB st i a d (λv s=>some (v,s))).bind λp=>κ p.1 p.2:=by
 unfold mB;split
 . split
   . split
     . rw[bF]
       congr 1
       funext x
       split
       . split<;>rfl
       . rfl
     . rfl
   . rw[jb,jb (κ:=λv=>some (v,st)),bF];rfl
 . rw[jb,jb (κ:=λv=>some (v,st)),bF];rfl
theorem dR (st:St)(n:Nat)(b:B)(κ:St->Option ρ):dZ st n b κ=(dZ st n b some).bind κ:=by unfold dZ;split<;>rfl
theorem cK (st:St)(n e:Nat)(u:U)(l:List (El u))(κ:St->Option ρ):newRow st n e u l κ=(newRow st n e u l some).bind κ:=by
 unfold newRow;split
 . exact dR ..
 . rfl
theorem jv (st:St)(n e:Nat)(o:O)(l:List (El o.u))(κ:St->Option ρ):gY st n e o l κ=(gY st n e o l some).bind κ:=by
 unfold gY;split
 . exact dR ..
 . rfl
theorem BE (st:St)(dst e:Nat)(o:O)(ie:TI)(s x:C)(κ:V->St->Option ρ):fu st dst e o ie s x κ=(fu st dst e o ie s x (λv s=>some (v,s))).bind λp=>κ p.1 p.2:=by
 unfold fu;split
 . split
   . rw[bJ,jv,jv (κ:=λs=>some (_,s)),bF];rfl
   . rfl
 . rfl
theorem iC (st:St)(i:TI)(esz:Nat)(x:C)(j:Int)(κ:C->Option ρ):indexAddr st i esz x j κ=(indexAddr st i esz x j some).bind κ:=by
 unfold indexAddr
 repeat' split
 all_goals first|rfl|simp only[bJ,bF,aa,Option.bind_none]
theorem fO :∀(m i:Nat)(j:Int)(κ:Nat->Option ρ),nk m i j κ=(nk m i j some).bind κ
 |0,_,_,_=>rfl
 |m+1,i,j,κ=>by simp only[nk,bJ,aa];rw[fO m]
theorem Mc (st:St)(ik ie:TI)(eq:Option (El ik.u->El ik.u->Bool))(t dst:Nat)(x y:V)(κ:V->St->Option ρ):jU st ik ie eq t dst x y κ=(jU st ik ie eq t dst x y (λv s=>some (v,s))).bind λp=>κ p.1 p.2:=by
 unfold jU;split
 . split
   . split
     . split
       . split
         . simp only[Option.bind_assoc]
           congr 1;funext p
           rw[dR,dR (κ:=λs=>some (_,s)),bF];rfl
         . rfl
       . rfl
     . rfl
   . rfl
 . rfl
theorem mT (st:St)(ik:TI)(eq:Option (El ik.u->El ik.u->Bool))(t:Nat)(x y z:V)(κ:St->Option ρ):gC st ik eq t x y z κ=(gC st ik eq t x y z some).bind κ:=by
 unfold gC;split
 . split
   . rename_i b n
     cases b with
     |true=>rfl
     |false=>
      simp only[ac];split
      . split
        . split<;>rfl
        . rfl
      . rfl
   . rfl
 . rfl
theorem uk (st:St)(x:V)(κ:St->Option ρ):mN st x κ=(mN st x some).bind κ:=by
 unfold mN;split
 . split
   . rw[Option.bind_assoc];rfl
   . rfl
 . rfl
theorem fR (st:St)(ik ie:TI)(z:Option (El ie.u))(eq:Option (El ik.u->El ik.u->Bool))(t:Nat)(x y:V)(ok:Bool)(κ:V->Option ρ):fW st ik ie z eq t x y ok κ=(fW st ik ie z eq t x y ok some).bind κ:=by
 unfold fW;split
 . split
   . dsimp only;split<;>rfl
   . split
     . split
       . split
         . dsimp only;split<;>rfl
         . rfl
       . rfl
     . rfl
   . rfl
 . rfl
theorem jI (st:St)(ik ie:TI)(eq:Option (El ik.u->El ik.u->Bool))(t:Nat)(x y z:V)(κ:St->Option ρ):fH st ik ie eq t x y z κ=(fH st ik ie eq t x y z some).bind κ:=by
 unfold fH;split
 . split
   . rw[bJ]
     congr 1
     split
     . split
       . split<;>rfl
       . rfl
     . rfl
   . rfl
 . rfl
theorem IL (st:St)(ik ie:TI)(z:Option (El ie.u))(eq:Option (El ik.u->El ik.u->Bool))(t:Nat)(x y:V)(κ:V->St->Option ρ):iU st ik ie z eq t x y κ=(iU st ik ie z eq t x y (λv s=>some (v,s))).bind λp=>κ p.1 p.2:=by
 unfold iU;split
 . split
   . rw[bJ]
     congr 1
     split
     . split
       . split
         . split<;>rfl
         . rfl
       . rfl
     . rfl
   . rfl
 . rfl
theorem jR (st:St)(ie:TI)(t:Nat)(x y z:V)(κ:St->Option ρ):fv st ie t x y z κ=(fv st ie t x y z some).bind κ:=by
 unfold fv;split
 . rw[bJ]
   congr 1
   split
   . split
     . split
       . rw[bF];rfl
       . rfl
     . rfl
   . rfl
 . rfl
theorem Fv (k:Nat)(st:St)(dst:Nat)(args:List V)(e:af)(κ:V->St->Option ρ)(other:Option ρ)(other':Option (V×St))(ho:other=other'.bind λp=>κ p.1 p.2):
    e7 k st dst args e κ other=(e7 k st dst args e (λv s=>some (v,s)) other').bind λp=>κ p.1 p.2:=by
 unfold e7;split
 . rename_i v r _ _;simp only[bF]
   cases e.f k v with
   |none=>rfl
   |some o=>simp only[aa];split<;>rfl
 . exact ho
theorem sv (k:Nat)(st:St)(dst f:Nat)(args:List V)(κ:V->St->Option ρ):∀es:List af,gf k st dst f args κ es=(gf k st dst f args (λv s=>some (v,s)) es).bind λp=>κ p.1 p.2
 |[]=>rfl
 |e::es=>by
  simp only[gf];split
  . exact Fv _ _ _ _ _ _ _ _ (sv k st dst f args κ es)
  . exact sv k st dst f args κ es
theorem FW (st:St)(i:TI)(esz:Nat)(trunc:Bool)(dst:Nat)(x:C)(lo hi:Option Int)(κ:V->St->Option ρ):iH st i esz trunc dst x lo hi κ=(iH st i esz trunc dst x lo hi (λv s=>some (v,s))).bind λp=>κ p.1 p.2:=by
 unfold iH;split
 . simp only[bJ,aa,Option.bind_none]
 . split
   . simp only[bJ,aa,Option.bind_none]
   . rfl
 . split
   . split
     . cases trunc with
       |false=>simp only[bJ,ac,aa,Option.bind_none]
       |true=>
        simp only[ab];split
        . rw[bJ,cK,cK (κ:=λs=>some (_,s)),bF];rfl
        . rfl
     . rfl
   . split
     . simp only[bJ,aa,Option.bind_none]
     . rfl
   . rfl
 . split
   . simp only[bJ,aa,Option.bind_none]
   . rfl
 . rfl
theorem n8 (st:St)(i:TI)(esz:Nat)(x:C)(lo hi:Option Int)(κ:C->Option ρ):jH st i esz x lo hi κ=(jH st i esz x lo hi some).bind κ:=by
 unfold jH;split
 . split
   . split
     . simp only[bJ,aa,Option.bind_none]
     . rfl
   . rfl
 . rfl
theorem Fi (st:St)(h:Nat->B)(sz off j n:Nat)(new:List C)(κ:St->Option ρ):gm st h sz off j n new κ=(gm st h sz off j n new some).bind κ:=by
 unfold gm;split
 . rename_i e u l _;cases Nat.beq sz u.n
   . rfl
   . simp only[ab,bF]
     cases l[j]? with
     |none=>rfl
     |some x=>
      simp only[aa];split
      . split<;>rfl
      . rfl
 . rfl
theorem qu (wh:Bool)(st:St)(i:TI)(a:C)(v:V)(κ:St->Option ρ):store wh st i a v κ=(store wh st i a v some).bind κ:=by
 unfold store;split
 . rfl
 . rw[bJ]
   congr 1
   split
   . split
     . split<;>rfl
     . exact Fi ..
     . split
       . rw[bF]
         congr 1
         funext x
         split
         . rfl
         . simp only[bJ,aa,Option.bind_none]
       . rfl
     . rw[bJ]
       congr 1
       split<;>rfl
     . rfl
   . rfl
theorem HP (st:St)(dst e:Nat)(ie:TI)(s x:C)(κ:V->St->Option ρ):append st dst e ie s x κ=(append st dst e ie s x (λv s=>some (v,s))).bind λp=>κ p.1 p.2:=by
 unfold append;split
 . split
   . rw[bJ,cK,cK (κ:=λs=>some (_,s)),bF];rfl
   . rfl
 . split
   . split
     . split
       . rw[bJ,cK,cK (κ:=λs=>some (_,s)),bF];rfl
       . rfl
     . rfl
   . rfl
 . rfl
theorem Fw (cfg:Cfg)(st:St)(i:TI)(x:C)(κ:V->St->Option ρ):gT cfg st i x κ=(gT cfg st i x (λv s=>some (v,s))).bind λp=>κ p.1 p.2:=by
 unfold gT;split
 . split
   . split
     . split<;>rfl
     . rfl
   . rfl
 . rfl
theorem sy (cfg:Cfg)(st:St)(i j:TI)(c:C)(κ:C->Option ρ):conv cfg st i j c κ=(conv cfg st i j c some).bind κ:=by
 unfold conv
 split
 . split<;>rfl
 . split
   . split
     . split
       . split<;>rfl
       . rfl
     . rfl
   . rfl
theorem yT (cfg:Cfg)(st:St)(dst t':Nat)(i:TI)(s x:C)(κ:V->St->Option ρ):dW cfg st dst t' i s x κ=(dW cfg st dst t' i s x (λv s=>some (v,s))).bind λp=>κ p.1 p.2:=by
 unfold dW;split
 . split
   . split
     . rw[bJ,cK,cK (κ:=λs=>some (_,s)),bF];rfl
     . rfl
   . rfl
 . rfl
theorem MX (cfg:Cfg)(st:St)(o:Oper)(κ:V->St->Option ρ):aS cfg st o κ=(aS cfg st o λv s=>some (v,s)).bind λp=>κ p.1 p.2:=by
 by_cases hf:∃f fs cs,o.op=.makeFunc f fs cs
 . obtain⟨f,fs,cs,ho⟩:=hf;cases f<;>simp only[aS,ho]
   case func f=>
    split
    . rfl
    . rfl
   all_goals rfl
 by_cases hs:∃t x lo hi mx,o.op=.slice t x lo hi mx
 . obtain⟨t,x,lo,hi,mx,ho⟩:=hs
   cases mx with
   |some m=>simp only[aS,ho];rfl
   |none=>
    simp only[aS,ho];split
    . cases cfg.tails.any (Nat.beq (Oper.name o))with
      |true=>
       simp only[ab];rw[n8,n8 (κ:=λc=>some (V.v (W1.c c),st)),bF];rfl
      |false=>simp only[ac];exact FW ..
    . rfl
 by_cases hm:∃t x,o.op=.makeMap t x
 . obtain⟨t,x,ho⟩:=hm
   cases x with
   |some m=>simp only[aS,ho];rfl
   |none=>
    simp only[aS,ho];split
    . split
      . split
        . split
          . rw[dR,dR (κ:=λs=>some (_,s)),bF];rfl
          . rfl
        . rfl
      . rfl
    . rfl
 cases ho:o.op<;>(try simp only[aS,ho])
 case makeMap t x=>exact absurd ⟨t,x,ho⟩ hm
 case lookup t x y cm=>
  split
  . split
    . split
      . split
        . cases cfg.takes.any (Nat.beq (Oper.name o))&& !cm with
          |true=>simp only[ab];exact Mc ..
          |false=>
           simp only[ac]
           cases cfg.melts.any (Nat.beq (Oper.name o))with
           |true=>
            simp only[ab];rw[uk,uk (κ:=λst'=>fW st' _ _ _ _ _ _ _ _ λv=>some (v,st')),Option.bind_assoc]
            congr 1;funext s
            rw[fR,fR (κ:=λv=>some (v,s)),bF];rfl
           |false=>simp only[ac];rw[fR,fR (κ:=λv=>some (v,st)),bF];rfl
        . rfl
      . rfl
    . rfl
  . rfl
 case mapEntry t x y=>
  split
  . split
    . split
      . split
        . exact IL ..
        . rfl
      . rfl
    . rfl
  . rfl
 case entryStore t x y z=>
  split
  . split
    . split
      . rw[jR,jR (κ:=λs=>some (_,s)),bF];rfl
      . rfl
    . rfl
  . rfl
 case mapUpdate t x y z=>
  split
  . split
    . split
      . cases sL st (ay st x)with
        |true=>simp only[ab];rw[mT,mT (κ:=λs=>some (_,s)),bF];rfl
        |false=>simp only[ac];rw[jI,jI (κ:=λs=>some (_,s)),bF];rfl
      . rfl
    . rfl
  . rfl
 case move x=>rfl
 case assign x=>rfl
 case pick c a b=>
  split
  . rename_i t _;cases t<;>rfl
  . rfl
 case alloc t=>
  split
  . split
    . split
      . split
        . rw[bJ,cK,cK (κ:=λs=>some (_,s)),bF];rfl
        . rfl
      . rfl
    . rw[bJ,dR,dR (κ:=λs=>some (_,s)),bF];rfl
  . rfl
 case box t x=>
  split
  . split
    . split
      . split
        . rw[bJ,cK,cK (κ:=λs=>some (_,s)),bF];rfl
        . rfl
      . rfl
    . rw[dR,dR (κ:=λs=>some (_,s)),bF];rfl
  . rfl
 case build t ps=>
  split
  . split
    . split<;>rfl
    . rfl
  . rfl
 case buildSlice t n ps=>
  split
  . split
    . split
      . split
        . split
          . split
            . rw[bJ,jv,jv (κ:=λs=>some (_,s)),bF];rfl
            . rfl
          . rfl
        . split
          . split
            . rw[bJ,cK,cK (κ:=λs=>some (_,s)),bF];rfl
            . rfl
          . rfl
      . rfl
    . rfl
  . rfl
 case load t a=>
  split
  . cases cfg.opens.any (Nat.beq (Oper.name o))with
    |true=>simp only[ab];exact EP ..
    |false=>simp only[ac];rw[jb,jb (κ:=λv=>some (v,st)),bF];rfl
  . rfl
 case nilCheck x=>split<;>rfl
 case binOp op t x y p=>rw[uU,uU (κ:=λc=>some (V.v (W1.c c),st)),bF];rfl
 case unOp op t x=>rw[yM,yM (κ:=λc=>some (V.v (W1.c c),st)),bF];rfl
 case convert s d x=>
  split
  . rw[sy,sy (κ:=λc=>some (V.v (W1.c c),st)),bF];rfl
  . rfl
 case fieldAddr s x f=>
  split
  . split
    . split<;>rfl
    . rfl
  . rfl
 case field s x f=>
  split
  . split
    . split
      . split
        . split
          . split<;>rfl
          . rfl
        . rfl
      . rfl
    . rfl
  . rfl
 case indexAddr t x i=>
  split
  . split
    . split
      . rw[fO,fO (κ:=λq=>some (V.v (W1.c (C.ptr _ 0 0 (_+q*bU cfg _))),st)),bF];rfl
      . rfl
    . rw[iC,iC (κ:=λc=>some (V.v (W1.c c),st)),bF];rfl
  . rfl
 case index t x i=>
  split
  . split
    . simp only[bF,aa]
    . rfl
  . split
    . rw[fO]
      conv=>rhs;arg 1;rw[fO]
      rw[bF]
      congr 1
      funext q
      split<;>rfl
    . rfl
  . rfl
 case store t a x=>
  split
  . rw[qu,qu (κ:=λs=>some (_,s)),bF];rfl
  . rfl
 case extract x i=>
  split
  . split<;>rfl
  . rfl
 case makeFunc f fs cs=>exact absurd ⟨f,fs,cs,ho⟩ hf
 case makeSlice t l c=>
  split
  . split
    . split
      . split
        . split
          . split
            . rw[bJ,jv,jv (κ:=λs=>some (_,s)),bF];rfl
            . rfl
          . rfl
        . split
          . rw[bJ,cK,cK (κ:=λs=>some (_,s)),bF];rfl
          . rfl
      . rfl
    . rfl
  . rfl
 case slice t x lo hi mx=>exact absurd ⟨t,x,lo,hi,mx,ho⟩ hs
 case call c=>
  split
  . split
    . split
      . split<;>rfl
      . rfl
    . rfl
  . split
    . split
      . split<;>rfl
      . rfl
    . rfl
  . split
    . split
      . split
        . split
          . split
            . exact BE ..
            . exact HP ..
          . rfl
        . rfl
      . exact yT ..
      . rfl
    . rfl
  . split
    . split<;>rfl
    . rfl
  . split
    . split<;>rfl
    . rfl
  . split
    . split
      . exact Fw ..
      . rfl
    . rfl
  . rfl
  . rfl
  . split
    . split
      . exact sv ..
      . rfl
    . rfl
 all_goals rfl
theorem MV {cfg:Cfg}{st:St}{o:Oper}{κ:V->St->Option ρ}{r:ρ}(h:aS cfg st o κ=some r):∃v s1,aS cfg st o (λv s=>some (v,s))=some (v,s1)/\κ v s1=some r:=by rw[MX]at h;obtain⟨⟨v,s1⟩,h1,h2⟩:=bR.1 h;exact⟨v,s1,h1,h2⟩
end Go.Proofs.YtlkkaielmdlefaaGreatDoor.R1
namespace Go.Proofs.YtlkkaielmdlefaaGreatDoor.R1
theorem ul :∀{a b:List Nat}{l:Nat},l∈union a b↔l∈a\/l∈b
 |[],b,l=>by simp[union]
 |n::a,b,l=>by
  simp only[union]
  cases e:b.any (Nat.beq n)with
  |true=>
   simp only[ab,ul,aG];have:=any_beq.1 e;constructor
   . rintro(h|h);exact .inl (.inr h);exact .inr h
   . rintro((rfl|h)|h);exact .inr this;exact .inl h;exact .inr h
  |false=>simp only[ac,aG,ul,or_assoc]
theorem EK (f:Nat->List Nat):∀{es:List Nat}{l:Nat},l∈es.foldr (λj l=>union (j::f j) l) []↔∃e∈es,l=e\/l∈f e
 |[],l=>by simp
 |e::es,l=>by
  rw[List.foldr_cons,ul,EK f,aG];constructor
  . rintro(h|⟨x,hx,h⟩)
    . exact⟨e,by simp,h⟩
    . exact⟨x,bk _ hx,h⟩
  . rintro⟨x,hx,h⟩;rcases aG.1 hx with rfl|hx
    . exact .inl h
    . exact .inr ⟨x,hx,h⟩
structure Good (ops:List Oper)(bs:List (List Nat)):Prop where
 len:bs.length=ops.length
 mem:∀i o,ops[i]? =some o->∀l,l∈cH bs i↔∃e∈e8 o,l=e\/l∈cH bs e
def sj (ops:List Oper):Prop:=∀i o,ops[i]? =some o->∀e∈e8 o,e<i
theorem tk :∀{l:List Oper}{i:Nat},lF l i=true->∀j o,l[j]? =some o->∀e∈e8 o,e<i+j
 |[],_,_,j,o,h=>by simp at h
 |p::l,i,hb,0,o,h=>by
  simp only[lF,aH,dj]at hb;simp at h;subst h;intro e he;have:=hb.1 e he;rw[dM]at this;exact this
 |p::l,i,hb,j+1,o,h=>by simp only[lF,aH]at hb;simp at h;intro e he;have:=tk hb.2 j o h e he;omega
theorem tK :∀{r pre:List Oper}{acc:List (List Nat)},sj (pre++r)->Good pre acc->Good (pre++r) (lG r acc)
 |[],pre,acc,_,g=>by simpa[lG]using g
 |o::r,pre,acc,hb,g=>by
  have hb':sj (pre++[o]++r):=by simpa using hb
  have hpre:∀j,j<acc.length->∀x,cH (acc++[x]) j=cH acc j:=by intro j hj x;simp[cH,gI hj]
  have:=tK (r:=r) (pre:=pre++[o]) (acc:=acc++[(e8 o).foldr (λj l=>union (j::(acc[j]?).getD []) l) []]) hb' (by
   refine⟨by simp[g.len],λi p hi l=> ?_⟩;by_cases hlt:i<pre.length
   . rw[gI hlt]at hi;rw[hpre i (by rw[g.len];exact hlt),g.mem i p hi l];constructor
     . rintro⟨e,he,h⟩;refine⟨e,he,?_⟩;rw[hpre e];exact h;have:=hb i p (by rw[gI hlt];exact hi) e he;rw[g.len];omega
     . rintro⟨e,he,h⟩;refine⟨e,he,?_⟩;rw[hpre e]at h;exact h;have:=hb i p (by rw[gI hlt];exact hi) e he;rw[g.len];omega
   . have hi':i=pre.length/\p=o:=by
      rw[jJ (by omega)]at hi
      cases hk:i-pre.length with
      |zero=>rw[hk]at hi;simp at hi;exact⟨by omega,hi.symm⟩
      |succ m=>rw[hk]at hi;simp at hi
     obtain⟨rfl,rfl⟩:=hi';have:cH (acc++[(e8 p).foldr (λj l=>union (j::(acc[j]?).getD []) l) []]) pre.length=(e8 p).foldr (λj l=>union (j::(acc[j]?).getD []) l) []:=by simp[cH,<-g.len]
     rw[this,EK (λj=>(acc[j]?).getD [])];constructor
     . rintro⟨e,he,h⟩;refine⟨e,he,?_⟩;rw[hpre e];exact h;have:=hb pre.length p (by simp) e he;rw[g.len];exact this
     . rintro⟨e,he,h⟩;refine⟨e,he,?_⟩;rw[hpre e]at h;exact h;have:=hb pre.length p (by simp) e he
       rw[g.len];exact this)
  simpa[lG]using this
theorem Sn {ops:List Oper}(h:lF ops 0=true):Good ops (lG ops [])/\sj ops:=by
 have hb:sj ops:=λi o hi e he=>by have:=tk h i o hi e he;omega
 have:=tK (r:=ops) (pre:=[]) (acc:=[]) (by simpa using hb) ⟨rfl,λi o hi=>by simp at hi⟩;exact⟨by simpa using this,hb⟩
theorem kR {ops:List Oper}{bs:List (List Nat)}(g:Good ops bs)(hb:sj ops):∀(i l:Nat),l∈cH bs i->l<i:=by
 intro i
 induction i using Nat.strongRecOn with
 |_ i ih=>
  intro l hl
  cases hi:ops[i]? with
  |none=>
   have:bs[i]? =none:=by rw[List.getElem?_eq_none_iff]at hi⊢;rw[g.len];exact hi
   simp[cH,this]at hl
  |some o=>
   obtain⟨e,he,h⟩:=(g.mem i o hi l).1 hl;have:=hb i o hi e he;rcases h with rfl|h
   . exact this
   . exact Nat.lt_trans (ih e this l h) this
theorem xC {ops:List Oper}{bs:List (List Nat)}(g:Good ops bs)(hb:sj ops){X:Nat->Prop}(hX:∀j o,X j->ops[j]? =some o->∀e∈e8 o,X e):∀(j l:Nat),X j->l∈cH bs j->X l:=by
 intro j
 induction j using Nat.strongRecOn with
 |_ j ih=>
  intro l hj hl
  cases hi:ops[j]? with
  |none=>
   have:bs[j]? =none:=by rw[List.getElem?_eq_none_iff]at hi⊢;rw[g.len];exact hi
   simp[cH,this]at hl
  |some o=>
   obtain⟨e,he,h⟩:=(g.mem j o hi l).1 hl;rcases h with rfl|h
   . exact hX j o hj hi l he
   . exact ih e (hb j o hi e he) l (hX j o hj hi e he) h
theorem Eg {ops:List Oper}{bs:List (List Nat)}(g:Good ops bs){i:Nat}{o:Oper}(hi:ops[i]? =some o){e:Nat}(he:e∈e8 o):e∈cH bs i:=(g.mem i o hi e).2 ⟨e,he,.inl rfl⟩
theorem zc :∀{l:List (Option Nat)},fQ l=true->∀{i j d:Nat},l[i]? =some (some d)->l[j]? =some (some d)->i=j:=by
 intro l
 induction l with
 |nil=>intro _ i j d h;simp at h
 |cons x l ih=>
  intro hd i j d hi hj
  have hl:fQ l=true:=by
   cases x with
   |none=>exact hd
   |some n=>simp only[fQ,aH]at hd;exact hd.2
  have hx:∀k:Nat,x=some d->l[k]? =some (some d)->False:=by rintro k rfl hk;simp only[fQ,aH,ji]at hd;have hm:(some d:Option Nat)∈l:=aX hk;have h1:=List.any_eq_false.1 hd.1 _ hm;exact h1 (jj d)
  cases i with
  |zero=>cases j with
   |zero=>rfl
   |succ j=>simp at hi hj;exact(hx j hi hj).elim
  |succ i=>cases j with
   |zero=>simp at hi hj;exact(hx i hj hi).elim
   |succ j=>simp at hi hj;rw[ih hl hi hj]
theorem Hd {ops:List Oper}(hd:fQ (ops.map (·.dst))=true){i j d:Nat}(hi:eD ops i=some d)(hj:eD ops j=some d):i=j:=by
 refine zc hd (i:=i) (j:=j) (d:=d) ?_ ?_
 . unfold eD at hi
   cases e:ops[i]? with
   |none=>rw[e]at hi;cases hi
   |some o=>rw[e]at hi;simp[e];exact hi
 . unfold eD at hj
   cases e:ops[j]? with
   |none=>rw[e]at hj;cases hj
   |some o=>rw[e]at hj;simp[e];exact hj
theorem OQ {ops:List Oper}(hd:fQ (ops.map (·.dst))=true){i j n:Nat}{o p:Oper}{d e:Nat}(hi:ops[i]? =some o)(hj:ops[j]? =some p)(ho:o.dst=some d)(hp:p.dst=some e)(hdl:d<10000)(hel:e<10000)
    (h:owns o n=true) (h':owns p n=true):i=j:=by
 have e1:Oper.name o=d:=by simp[Oper.name,ho]
 have e2:Oper.name p=e:=by simp[Oper.name,hp]
 have key:∀{q:Oper}{c:Nat},Oper.name q=c->c<10000->owns q n=true->n=c\/(2000000+c*100≤n/\n<2000000+c*100+100):=by
  intro q c e3 hc h;unfold owns at h;rw[e3]at h;split at h
  . exact .inl (aR h)
  . simp only[OO,eB,aH,Nat.ble_eq,dM]at h;rcases h with h|h
    . exact .inl (aR h)
    . exact .inr h
  . cases h
 have key:d=e:=by rcases key e1 hdl h with h|h<;>rcases key e2 hel h' with h'|h'<;>omega
 subst key;exact Hd (d:=d) hd (by simp[eD,hi,ho]) (by simp[eD,hj,hp])
theorem LD {o:Oper}{d n:Nat}(ho:o.dst=some d)(hd:d<10000)(h:owns o n=true):bZ n=false:=by
 have e1:Oper.name o=d:=by simp[Oper.name,ho]
 have key:n<1000000\/(2000000≤n/\n<3000000):=by
  unfold owns at h;rw[e1]at h;split at h
  . have:=aR h;omega
  . simp only[OO,eB,aH,Nat.ble_eq,dM]at h;rcases h with h|h
    . have:=aR h;omega
    . omega
  . cases h
 unfold bZ bH gB;have h1:(Nat.ble 1000000 n&&Nat.blt n 2000000)=false:=by rw[Bool.eq_false_iff];intro hh;simp only[aH,Nat.ble_eq,dM]at hh;omega
 have h2:(Nat.ble 3000000 n&&Nat.blt n 4000000)=false:=by rw[Bool.eq_false_iff];intro hh;simp only[aH,Nat.ble_eq,dM]at hh;omega
 rw[h1,h2];rfl
structure LeH (b:Nat->Bool)(h h':Nat->B):Prop where
 out:∀n,b n=false->h' n=h n
 gone:∀n,b n=true->h n=.gone
structure Le (b:Nat->Bool)(st st':St):Prop where
 t:∀n,st.t n=.bad\/st'.t n=st.t n
 h:LeH b st.h st'.h
 aB:∀n,bH n=true->b n=false
def merge (b:Nat->Bool)(h h':Nat->B):Nat->B:=λn=>bif b n then h' n else h n
section
variable {b : Nat → Bool} {h h' : Nat → B}
theorem LeH.merge (l:LeH b h h'):R1.merge b h h'=h':=by
 funext n
 unfold R1.merge
 cases e:b n with
 |true=>rfl
 |false=>exact(l.out n e).symm
theorem cy {n:Nat}{x:B}(hn:b n=false):merge b (upd h n x) h'=upd (merge b h h') n x:=by
 funext k
 by_cases e:k=n
 . subst e;simp[merge,aj,hn]
 . simp[merge,az _ _ e]
theorem LeH.seen (l:LeH b h h'){n:Nat}(hn:h n≠ .gone):b n=false:=by
 cases e:b n with
 |false=>rfl
 |true=>exact absurd (l.gone n e) hn
theorem LeH.same (l:LeH b h h'){n:Nat}(hn:h n≠ .gone):h' n=h n:=l.out n (l.seen hn)
theorem LeH.at (l:LeH b h h'){n:Nat}{x:B}(hn:h n=x)(hx:x≠ .gone):h' n=x:=by rw[l.same (by rw[hn];exact hx)];exact hn
theorem LeH.aZ (ns:List Nat):∀{h h':Nat->B},LeH b h h'->LeH b (R1.aZ h ns) (R1.aZ h' ns):=by
 induction ns with
 |nil=>intro h h' l;exact l
 |cons n ns ih=>
  intro h h' l;refine ih ⟨λk hk=> ?_,λk hk=> ?_⟩
  . by_cases e:k=n
    . subst e;rw[aj,aj,l.out k hk]
    . rw[az _ _ e,az _ _ e];exact l.out k hk
  . by_cases e:k=n
    . subst e;rw[aj,l.gone k hk];rfl
    . rw[az _ _ e];exact l.gone k hk
theorem iO (h':Nat->B)(ns:List Nat):∀{h:Nat->B},(∀n∈ns,b n=false)->aZ (merge b h h') ns=merge b (aZ h ns) h':=by
 induction ns with
 |nil=>intro h _;rfl
 |cons n ns ih=>intro h hs;have hn:=hs n (by simp);show aZ (upd (merge b h h') n (merge b h h' n).freeze) ns=merge b (aZ (upd h n (h n).freeze) ns) h';rw[show merge b h h' n=h n by simp[merge,hn],<-cy hn];exact ih λk hk=>hs k (bk _ hk)
theorem zw (ns:List Nat):∀{h:Nat->B}{n:Nat},h n=.gone->aZ h ns n=.gone:=by
 induction ns with
 |nil=>intro h n hn;exact hn
 |cons m ns ih=>
  intro h n hn;refine ih ?_;by_cases e:n=m
  . subst e;rw[aj,hn];rfl
  . rw[az _ _ e];exact hn
theorem LeH.dv (l:LeH b h h'){u:U}{c:C}{x:List (El u)}(hx:R1.dv h u c=some x):R1.dv h' u c=some x:=by
 cases c with
 |row n=>
  simp only[R1.dv]at hx⊢;have hn:h n≠ .gone:=by intro e;rw[e]at hx;cases hx
  rw[l.same hn];exact hx
 |_=>exact hx
theorem vQ {u:U}{n:Nat}{x:List (El u)}(hx:dv h u (.row n)=some x):h n≠ .gone:=by intro e;simp only[dv]at hx;rw[e]at hx;cases hx
theorem LeH.bV (l:LeH b h h'):∀{u:U}{cs r:List C}{x:El u},R1.bV h u cs=some (x,r)->R1.bV h' u cs=some (x,r):=by
 intro u
 induction u with
 |pair a c iha ihc=>
  intro cs r x hx;simp only[R1.bV]at hx⊢;split at hx
  . rename_i y r1 e1;split at hx
    . rename_i z r2 e2;rw[iha e1];simp only;rw[ihc e2];exact hx
    . cases hx
  . cases hx
 |sl e ih=>
  intro cs r x hx;simp only[R1.bV]at hx⊢;split at hx
  . split at hx
    . rename_i y e1;rw[l.dv e1];exact hx
    . cases hx
  . cases hx
 |_=>intro cs r x hx;exact hx
theorem uv :∀{u:U}{cs r:List C}{x:El u},bV h u cs=some (x,r)->∀n∈bn cs,h n≠ .gone\/n∈bn r:=by
 intro u
 induction u with
 |pair a c iha ihc=>
  intro cs r x hx n hn;simp only[bV]at hx;split at hx
  . rename_i y r1 e1;split at hx
    . rename_i z r2 e2;injection hx with hx;injection hx with _ hx;subst hx;rcases iha e1 n hn with h1|h1
      . exact .inl h1
      . exact ihc e2 n h1
    . cases hx
  . cases hx
 |sl e ih=>
  intro cs r x hx n hn;simp only[bV]at hx;split at hx
  . rename_i c r0;split at hx
    . rename_i y e1;injection hx with hx;injection hx with _ hx;subst hx
      cases c with
      |row m=>
       rcases aG.1 hn with rfl|hn
       . exact .inl (vQ e1)
       . exact .inr hn
      |_=>exact .inr hn
    . cases hx
  . cases hx
 |unit=>
  intro cs r x hx n hn;simp only[bV]at hx;injection hx with hx;injection hx with _ hx;subst hx;exact .inr hn
 |int k=>
  intro cs r x hx n hn;simp only[bV]at hx;split at hx
  . split at hx
    . injection hx with hx;injection hx with _ hx;subst hx;exact .inr hn
    . cases hx
  . cases hx
 |bool=>
  intro cs r x hx n hn;simp only[bV]at hx;split at hx
  . injection hx with hx;injection hx with _ hx;subst hx;exact .inr hn
  . cases hx
 |str=>
  intro cs r x hx n hn;simp only[bV]at hx;split at hx
  . injection hx with hx;injection hx with _ hx;subst hx;exact .inr hn
  . cases hx
theorem LeH.datum (l:LeH b h h'){u:U}{cs:List C}{x:El u}(hx:R1.datum h u cs=some x):R1.datum h' u cs=some x:=by
 unfold R1.datum at hx⊢;split at hx
 . rename_i y e1;rw[l.bV e1];exact hx
 . cases hx
theorem nU {u:U}{cs:List C}{x:El u}(hx:datum h u cs=some x):∀n∈bn cs,h n≠ .gone:=by
 intro n hn;unfold datum at hx;split at hx
 . rename_i y e1;rcases uv e1 n hn with h1|h1
   . exact h1
   . cases h1
 . cases hx
theorem LeH.dY (l:LeH b h h'){u:U}:∀{n:Nat}{cs:List C}{x:List (El u)},R1.dY h u n cs=some x->R1.dY h' u n cs=some x:=by
 intro n
 induction n with
 |zero=>intro cs x hx;exact hx
 |succ n ih=>
  intro cs x hx;simp only[R1.dY]at hx⊢;split at hx
  . rename_i y r e1;split at hx
    . rename_i z e2;rw[l.bV e1];simp only;rw[ih e2];exact hx
    . cases hx
  . cases hx
theorem BL {u:U}:∀{n:Nat}{cs:List C}{x:List (El u)},dY h u n cs=some x->∀k∈bn cs,h k≠ .gone:=by
 intro n
 induction n with
 |zero=>
  intro cs x hx k hk
  cases cs with
  |nil=>cases hk
  |cons=>cases hx
 |succ n ih=>
  intro cs x hx k hk;simp only[dY]at hx;split at hx
  . rename_i y r e1;split at hx
    . rename_i z e2;rcases uv e1 k hk with h1|h1
      . exact h1
      . exact ih e2 k h1
    . cases hx
  . cases hx
theorem LeH.Px (l:LeH b h h'):∀{k:CK}{c:C}{r r':Ren}{x:k.T},k.ext h c r=some (x,r')->k.ext h' c r=some (x,r'):=by
 intro k
 induction k with
 |sl u=>
  intro c r r' x hx;simp only[CK.ext]at hx⊢;split at hx
  . rename_i y e1;rw[l.dv e1];exact hx
  . cases hx
 |dp u=>
  intro c r r' x hx;simp only[CK.ext]at hx⊢;split at hx
  . exact hx
  . rename_i m i sz off;split at hx
    . rename_i tt cs hm;split at hx
      . rename_i y e1;simp only[l.at hm (by simp),l.datum e1];exact hx
      . cases hx
    . cases hx
  . cases hx
 |cap g c ihg ihc=>
  intro c' r r' x hx;simp only[CK.ext]at hx⊢;split at hx
  . split at hx
    . rename_i y r1 e1;split at hx
      . rename_i z r2 e2;simp only[ihg e1,ihc e2];exact hx
      . cases hx
    . cases hx
  . cases hx
 |_=>intro c r r' x hx;exact hx
theorem LeH.Ko (l:LeH b h h'):∀{ks:List CK}{cs:List C}{r r':Ren}{x:sk ks},iz h ks cs r=some (x,r')->iz h' ks cs r=some (x,r'):=by
 intro ks
 induction ks with
 |nil=>intro cs r r' x hx;exact hx
 |cons k ks ih=>
  intro cs r r' x hx;simp only[iz]at hx⊢;split at hx
  . split at hx
    . rename_i y r1 e1;split at hx
      . rename_i z r2 e2;simp only[l.Px e1,ih e2];exact hx
      . cases hx
    . cases hx
  . cases hx
theorem LeH.ZJ (l:LeH b h h'){k:VK}{v:V}{r r':Ren}{x:k.T}(hx:k.ext h v r=some (x,r')):k.ext h' v r=some (x,r'):=by
 cases k with
 |c k=>
  simp only[VK.ext]at hx⊢;split at hx
  . exact l.Px hx
  . cases hx
 |agg ks=>
  simp only[VK.ext]at hx⊢;split at hx
  . exact l.Ko hx
  . cases hx
theorem LeH.WJ (l:LeH b h h'){t:Nat->V}:∀{ts:List (Nat×VK)}{r r':Ren}{x:nJ ts},iA ⟨t,h⟩ ts r=some (x,r')->iA ⟨t,h'⟩ ts r=some (x,r'):=by
 intro ts
 induction ts with
 |nil=>intro r r' x hx;exact hx
 |cons p ts ih=>
  obtain⟨i,k⟩:=p;intro r r' x hx;simp only[iA]at hx⊢;split at hx
  . rename_i y r1 e1;split at hx
    . rename_i z r2 e2;simp only[l.ZJ e1,ih e2];exact hx
    . cases hx
  . cases hx
theorem LeH.WN (l:LeH b h h'){k:BK}{m:Option Nat}{r r':Ren}{x:k.T}(hx:k.ext h m r=some (x,r')):k.ext h' m r=some (x,r'):=by
 cases k with
 |row e u=>
  cases m with
  |none=>exact hx
  |some m=>
   simp only[BK.ext]at hx⊢;split at hx
   . rename_i e' u' y hm;simp only[l.at hm (by simp)];exact hx
   . cases hx
 |box t ks=>
  cases m with
  |none=>exact hx
  |some m=>
   simp only[BK.ext]at hx⊢;split at hx
   . rename_i t' cs hm;simp only[l.at hm (by simp)]
     cases e:Nat.beq t' t with
     |false=>rw[e]at hx;cases hx
     |true=>rw[e]at hx;exact l.Ko hx
   . cases hx
 |mp t ka va ku vu=>
  cases m with
  |none=>exact hx
  |some m=>
   simp only[BK.ext]at hx⊢;split at hx
   . rename_i hm;simp only[l.at hm (by simp)];exact hx
   . cases hx
 |own e o=>
  cases m with
  |none=>exact hx
  |some m=>
   simp only[BK.ext]at hx⊢;split at hx
   . rename_i e' o' y hm;simp only[l.at hm (by simp)];exact hx
   . cases hx
 |mr t ka ku e u=>
  cases m with
  |none=>exact hx
  |some m=>
   simp only[BK.ext]at hx⊢;split at hx
   . rename_i hm;simp only[l.at hm (by simp)];exact hx
   . cases hx
theorem HS {k:BK}{m:Nat}{r r':Ren}{x:k.T}(hx:k.ext h (some m) r=some (x,r')):h m≠ .gone:=by
 cases k<;>(simp only[BK.ext]at hx;split at hx<;>first|(rename_i hm;rw[hm];simp;done)|cases hx)
theorem LeH.TX (l:LeH b h h'):∀{bs:List (Nat×BK)}{r r':Ren}{x:jW bs},iy h bs r=some (x,r')->iy h' bs r=some (x,r'):=by
 intro bs
 induction bs with
 |nil=>intro r r' x hx;exact hx
 |cons p bs ih=>
  obtain⟨n,k⟩:=p;intro r r' x hx;simp only[iy]at hx⊢;split at hx
  . split at hx
    . rename_i y r1 e1;split at hx
      . rename_i z r2 e2;simp only[l.WN e1,ih e2];exact hx
      . cases hx
    . cases hx
  . cases hx
theorem LeH.ext (l:LeH b h h'){s:Spec}{t:Nat->V}{x:s.V}{r:Ren}(hx:s.ext ⟨t,h⟩=some (x,r)):s.ext ⟨t,h'⟩=some (x,r):=by
 unfold Spec.ext at hx⊢;split at hx
 . rename_i y r1 e1;split at hx
   . rename_i z r2 e2;simp only[l.WJ e1,l.TX e2];exact hx
   . cases hx
 . cases hx
end
section
variable {b : Nat → Bool} {h h' : Nat → B}
structure nI (h:Nat->B)(r r':Ren):Prop where
 map:∀p∈r.map,p∈r'.map
 frz:∀z∈r'.frz,z∈r.frz\/h z≠ .gone
theorem nI.refl (r:Ren):nI h r r:=⟨λ_ h=>h,λ_ h=>.inl h⟩
theorem nI.trans {r1 r2 r3:Ren}(a:nI h r1 r2)(c:nI h r2 r3):nI h r1 r3:=⟨λp hp=>c.map p (a.map p hp),λz hz=>(c.frz z hz).elim (a.frz z) .inr⟩
theorem xH :∀{k:CK}{c:C}{r r':Ren}{x:k.T},k.ext h c r=some (x,r')->nI h r r':=by
 intro k
 induction k with
 |sl u=>
  intro c r r' x hx;simp only[CK.ext]at hx;split at hx
  . rename_i y e1;injection hx with hx;injection hx with _ hx;subst hx
    cases c with
    |row m=>exact⟨λ_ h=>h,λz hz=>by rcases aG.1 hz with rfl|hz;exact .inr (vQ e1);exact .inl hz⟩
    |_=>exact .refl _
  . cases hx
 |slx u=>
  intro c r r' x hx;simp only[CK.ext]at hx;split at hx
  . split at hx
    . injection hx with hx;injection hx with _ hx;subst hx;exact .refl _
    . cases hx
  . cases hx
 |row n=>
  intro c r r' x hx;simp only[CK.ext]at hx;split at hx
  . injection hx with hx;injection hx with _ hx;subst hx;exact⟨λ_ h=>bk _ h,λ_ h=>.inl h⟩
  . injection hx with hx;injection hx with _ hx;subst hx;exact⟨λ_ h=>bk _ h,λ_ h=>.inl h⟩
  . cases hx
 |mapr n=>
  intro c r r' x hx;simp only[CK.ext]at hx;split at hx
  . injection hx with hx;injection hx with _ hx;subst hx;exact⟨λ_ h=>bk _ h,λ_ h=>.inl h⟩
  . injection hx with hx;injection hx with _ hx;subst hx;exact⟨λ_ h=>bk _ h,λ_ h=>.inl h⟩
  . cases hx
 |mapl n=>
  intro c r r' x hx;simp only[CK.ext]at hx;split at hx
  . rename_i b m
    cases e:gO r.map n m with
    |false=>rw[e]at hx;cases hx
    |true=>rw[e]at hx;injection hx with hx;injection hx with _ hx;subst hx;exact .refl _
  . cases hx
 |tail n sz=>
  intro c r r' x hx;simp only[CK.ext]at hx;split at hx
  . rename_i m i sz'
    cases e:gO r.map n m&&Nat.beq sz' sz with
    |false=>rw[e]at hx;cases hx
    |true=>rw[e]at hx;injection hx with hx;injection hx with _ hx;subst hx;exact .refl _
  . cases hx
 |tailr n sz=>
  intro c r r' x hx;simp only[CK.ext]at hx;split at hx
  . rename_i m i sz'
    cases e:Nat.beq sz' sz with
    |false=>rw[e]at hx;cases hx
    |true=>rw[e]at hx;injection hx with hx;injection hx with _ hx;subst hx;exact⟨λ_ h=>bk _ h,λ_ h=>.inl h⟩
  . cases hx
 |box n=>
  intro c r r' x hx;simp only[CK.ext]at hx;split at hx
  . split at hx
    . injection hx with hx;injection hx with _ hx;subst hx;exact⟨λ_ h=>bk _ h,λ_ h=>.inl h⟩
    . cases hx
  . cases hx
 |dp u=>
  intro c r r' x hx;simp only[CK.ext]at hx;split at hx
  . split at hx
    . split at hx
      . injection hx with hx;injection hx with _ hx;subst hx;exact .refl _
      . cases hx
    . cases hx
  . split at hx
    . rename_i tt cs hm;split at hx
      . rename_i y e1;injection hx with hx;injection hx with _ hx;subst hx;refine⟨λ_ h=>h,λz hz=> ?_⟩;rcases aG.1 hz with rfl|hz
        . exact .inr (by rw[hm];simp)
        . rcases aC.1 hz with hz|hz
          . exact .inr (nU e1 z hz)
          . exact .inl hz
      . cases hx
    . cases hx
  . cases hx
 |lit c0=>
  intro c r r' x hx;simp only[CK.ext]at hx
  cases e:qg r.map c0 c with
  |false=>rw[e]at hx;cases hx
  |true=>rw[e]at hx;injection hx with hx;injection hx with _ hx;subst hx;exact .refl _
 |cap g c ihg ihc=>
  intro c' r r' x hx;simp only[CK.ext]at hx;split at hx
  . split at hx
    . rename_i y r1 e1;split at hx
      . rename_i z r2 e2;injection hx with hx;injection hx with _ hx;subst hx;exact(ihg e1).trans (ihc e2)
      . cases hx
    . cases hx
  . cases hx
 |int k=>
  intro c r r' x hx;simp only[CK.ext]at hx;split at hx
  . split at hx
    . injection hx with hx;injection hx with _ hx;subst hx;exact .refl _
    . cases hx
  . cases hx
 |bool=>
  intro c r r' x hx;simp only[CK.ext]at hx;split at hx
  . injection hx with hx;injection hx with _ hx;subst hx;exact .refl _
  . cases hx
 |str=>
  intro c r r' x hx;simp only[CK.ext]at hx;split at hx
  . injection hx with hx;injection hx with _ hx;subst hx;exact .refl _
  . cases hx
theorem vO :∀{ks:List CK}{cs:List C}{r r':Ren}{x:sk ks},iz h ks cs r=some (x,r')->nI h r r':=by
 intro ks
 induction ks with
 |nil=>
  intro cs r r' x hx
  cases cs with
  |nil=>simp only[iz]at hx;injection hx with hx;injection hx with _ hx;subst hx;exact .refl _
  |cons=>cases hx
 |cons k ks ih=>
  intro cs r r' x hx;simp only[iz]at hx;split at hx
  . split at hx
    . rename_i y r1 e1;split at hx
      . rename_i z r2 e2;injection hx with hx;injection hx with _ hx;subst hx;exact(xH e1).trans (ih e2)
      . cases hx
    . cases hx
  . cases hx
theorem J8 {k:VK}{v:V}{r r':Ren}{x:k.T}(hx:k.ext h v r=some (x,r')):nI h r r':=by
 cases k with
 |c k=>
  simp only[VK.ext]at hx;split at hx
  . exact xH hx
  . cases hx
 |agg ks=>
  simp only[VK.ext]at hx;split at hx
  . exact vO hx
  . cases hx
theorem Gc {st:St}:∀{ts:List (Nat×VK)}{r r':Ren}{x:nJ ts},iA st ts r=some (x,r')->nI st.h r r':=by
 intro ts
 induction ts with
 |nil=>intro r r' x hx;simp only[iA]at hx;injection hx with hx;injection hx with _ hx;subst hx;exact .refl _
 |cons p ts ih=>
  obtain⟨i,k⟩:=p;intro r r' x hx;simp only[iA]at hx;split at hx
  . rename_i y r1 e1;split at hx
    . rename_i z r2 e2;injection hx with hx;injection hx with _ hx;subst hx;exact(J8 e1).trans (ih e2)
    . cases hx
  . cases hx
theorem HR {k:BK}{m:Option Nat}{r r':Ren}{x:k.T}(hx:k.ext h m r=some (x,r')):nI h r r':=by
 cases k with
 |row e u=>
  cases m with
  |none=>
   simp only[BK.ext]at hx;split at hx
   . injection hx with hx;injection hx with _ hx;subst hx;exact .refl _
   . cases hx
  |some m=>
   simp only[BK.ext]at hx;split at hx
   . rename_i e' u' y hm
     cases q:Nat.beq e' e with
     |false=>rw[q]at hx;cases hx
     |true=>
      rw[q]at hx;simp only[ab]at hx;split at hx
      . injection hx with hx;injection hx with _ hx;subst hx;exact .refl _
      . cases hx
   . cases hx
 |box t ks=>
  cases m with
  |none=>cases hx
  |some m=>
   simp only[BK.ext]at hx;split at hx
   . rename_i t' cs hm
     cases e:Nat.beq t' t with
     |false=>rw[e]at hx;cases hx
     |true=>rw[e]at hx;exact vO hx
   . cases hx
 |mr t ka ku ee u=>
  cases m with
  |none=>cases hx
  |some m=>
   simp only[BK.ext]at hx;split at hx
   . rename_i t' ka' ku' e' u' y hm
     cases q:Nat.beq t' t&&fo ka' ka&&Nat.beq e' ee with
     |false=>rw[q]at hx;cases hx
     |true=>
      rw[q]at hx;simp only[ab]at hx;split at hx
      . injection hx with hx;injection hx with _ hx;subst hx;exact .refl _
      . cases hx
   . cases hx
 |mp t ka va ku vu=>
  cases m with
  |none=>
   simp only[BK.ext]at hx;split at hx
   . injection hx with hx;injection hx with _ hx;subst hx;exact .refl _
   . cases hx
  |some m=>
   simp only[BK.ext]at hx;split at hx
   . rename_i t' ka' va' ku' vu' y hm
     cases q:Nat.beq t' t&&fo ka' ka&&fo va' va with
     |false=>rw[q]at hx;cases hx
     |true=>
      rw[q]at hx;simp only[ab]at hx;split at hx
      . injection hx with hx;injection hx with _ hx;subst hx;exact .refl _
      . cases hx
   . cases hx
 |own e o=>
  cases m with
  |none=>
   simp only[BK.ext]at hx;split at hx
   . injection hx with hx;injection hx with _ hx;subst hx;exact .refl _
   . cases hx
  |some m=>
   simp only[BK.ext]at hx;split at hx
   . rename_i e' u' y hm
     cases q:Nat.beq e' e with
     |false=>rw[q]at hx;cases hx
     |true=>
      rw[q]at hx;simp only[ab]at hx;split at hx
      . injection hx with hx;injection hx with _ hx;subst hx;exact .refl _
      . cases hx
   . cases hx
theorem Fu :∀{bs:List (Nat×BK)}{r r':Ren}{x:jW bs},iy h bs r=some (x,r')->nI h r r'/\∀n k,(n,k)∈bs->∃m,(n,m)∈r'.map/\∀m',m=some m'->h m'≠ .gone:=by
 intro bs
 induction bs with
 |nil=>intro r r' x hx;simp only[iy]at hx;injection hx with hx;injection hx with _ hx;subst hx;exact⟨.refl _,λn k h=>by cases h⟩
 |cons p bs ih=>
  obtain⟨n,k⟩:=p;intro r r' x hx;simp only[iy]at hx;split at hx
  . rename_i m em;split at hx
    . rename_i y r1 e1;split at hx
      . rename_i z r2 e2;injection hx with hx;injection hx with _ hx;subst hx;have a1:=HR e1;obtain⟨a2,a3⟩:=ih e2;refine⟨a1.trans a2,λn' k' hk=> ?_⟩;rcases aG.1 hk with hk|hk
        . injection hk with h1 h2;subst h1;subst h2;exact⟨m,a2.map _ (a1.map _ (cV em)),λm' hm=>by subst hm;exact HS e1⟩
        . exact a3 n' k' hk
      . cases hx
    . cases hx
  . cases hx
theorem MY {s:Spec}{t:Nat->V}{x:s.V}{r:Ren}(hx:s.ext ⟨t,h⟩=some (x,r)):(∀z∈r.frz,h z≠ .gone)/\∀m∈bP r.map,h m≠ .gone:=by
 obtain⟨r1,e1,e2,hn⟩:=Er hx;have a1:=Gc e1;obtain⟨a2,a3⟩:=Fu e2;refine⟨λz hz=> ?_,λm hm=> ?_⟩
 . rcases(a1.trans a2).frz z hz with hz|hz
   . cases hz
   . exact hz
 . obtain⟨n,hn'⟩:=eG.1 hm;obtain⟨k,hk⟩:=pQ.1 (hn.blocks _ hn');obtain⟨m2,h2,h3⟩:=a3 n k (cV hk);have q1:=cM hn.d1 hn';have q2:=cM hn.d1 h2;rw[q1]at q2;injection q2 with q2;exact h3 m q2.symm
theorem jT (h':Nat->B):∀{map:List (Nat×Option Nat)}{h:Nat->B},(∀m∈bP map,b m=false)->gW (merge b h h') map=merge b (gW h map) h'
 |[],h,_=>rfl
 |(n,none)::map,h,hm=>jT h' (map:=map) hm
 |(n,some m)::map,h,hm=>by simp only[gW];rw[<-cy (hm m (by simp[bP]))];exact jT h' λk hk=>hm k (by simp[bP,hk])
theorem nR (h':Nat->B){nm:List (Nat×Nat)}:∀{bs:List (Nat×BK)}(x:jW bs){h:Nat->B},(∀p∈bs,b (cn nm p.1)=false)->gZ nm (merge b h h') bs x=merge b (gZ nm h bs x) h'
 |[],x,h,_=>rfl
 |(n,k)::bs,x,h,hm=>by simp only[gZ];rw[cy (hm (n,k) (by simp)),nR h' x.2 λp hp=>hm p (bk _ hp)]
theorem LeH.gV (l:LeH b h h'){map:List (Nat×Option Nat)}:∀{nm:List (Nat×Nat)},R1.gV h map nm=true->R1.gV h' map nm=true
 |[],_=>rfl
 |(n,m)::nm,hf=>by
  simp only[R1.gV,aH]at hf⊢;refine⟨?_,l.gV hf.2⟩;have h1:=hf.1;split
  . rfl
  . rename_i hno;split at h1
    . rename_i x e;exact absurd e (hno x)
    . split at h1
      . rename_i e1 e2;rw[l.at e1 (by simp),e2]
      . cases h1
theorem EZ {nm:List (Nat×Nat)}{n:Nat}(hn:n∈nm.map (·.1)):(n,cn nm n)∈nm:=by
 have:∃m,assoc nm n=some m:=by
  induction nm with
  |nil=>cases hn
  |cons p nm ih=>
   obtain⟨i,j⟩:=p;simp only[assoc]
   cases e:Nat.beq i n with
   |true=>exact⟨j,rfl⟩
   |false=>
    rcases aG.1 hn with hn|hn
    . subst hn;rw[jj]at e;cases e
    . exact ih hn
 obtain⟨m,hm⟩:=this;unfold cn;rw[hm];exact cV hm
theorem Ki {map:List (Nat×Option Nat)}{dst:Nat}{bs:List (Nat×BK)}(hf:gV h map (dd map dst bs 0)=true)(hact:∀m∈bP map,h m≠ .gone):∀p∈bs,h (cn (dd map dst bs 0) p.1)≠ .gone:=by
 intro p hp;have hm:=EZ (nm:=dd map dst bs 0) (n:=p.1) (by rw[jQ];exact eZ.2 ⟨p,hp,rfl⟩);rcases jm _ _ _ _ hm with hq|hq
 . exact hact _ (eG.2 ⟨_,cV hq⟩)
 . rw[(qF hf hm hq).1];simp
theorem BG {st st':St}(l:LeH b st.h st'.h){k dst:Nat}{args:List V}{e:af}{v:V}{s1:St}(hx:e7 k st dst args e (λv s=>some (v,s)) none=some (v,s1)):
    e7 k st' dst args e (λv s=>some (v,s)) none=some (v,⟨st'.t,merge b s1.h st'.h⟩):=by
 unfold e7 at hx⊢;split at hx
 . rename_i y r hext hlen;obtain⟨o,ho,hx⟩:=bR.1 hx;simp only[l.ext hext,hlen,ho,aa];split at hx
   . rename_i h1 h2;injection hx with hx;injection hx with hx1 hx2;subst hx1;subst hx2;obtain⟨sf,sa⟩:=MY hext;simp only[l.gV h1,h2];refine congrArg some ?_;refine Prod.ext rfl ?_;simp only[St.mk.injEq,true_and];have hb:=λp hp=>l.seen (Ki h1 sa p hp)
     have ha:=λm hm=>l.seen (sa m hm)
     cases e.res.flat with
     |true=>
      simp only;rw[<-nR _ _ hb,<-jT _ ha,l.merge]
     |false=>simp only;rw[<-nR _ _ hb,<-jT _ ha,<-iO _ _ λn hn=>l.seen (sf n hn),l.merge]
   . cases hx
 . cases hx
theorem BI {st:St}{k dst f:Nat}{args:List V}{e:af}{v:V}{s1:St}(hid:Nat.beq e.id f=true)(hx:e7 k st dst args e (λv s=>some (v,s)) none=some (v,s1)):
    s1.t=st.t/\∀n,n∉gH st dst f args [e]->s1.h n=st.h n:=by
 unfold e7 at hx;simp only[gH,hid];split at hx
 . rename_i y r hext hlen;obtain⟨o,ho,hx⟩:=bR.1 hx;split at hx
   . rename_i h1 h2;injection hx with hx;injection hx with hx1 hx2;subst hx1;subst hx2;refine⟨rfl,λn hn=> ?_⟩;simp only[aC,not_or]at hn;obtain⟨n1,n2,n3⟩:=hn;show gZ _ _ _ _ n=_;rw[sZ _ _ _ λp hp he=>n3 (eZ.2 ⟨_,EZ (nm:=dd r.map dst e.res.blocks 0) (n:=p.1) (by rw[jQ];exact eZ.2 ⟨p,hp,rfl⟩),he⟩),(eL _ _ n).2 n1]
     cases e1:e.res.flat with
     |true=>rfl
     |false=>rw[e1]at n2;exact iB _ _ _ n2
   . cases hx
 . cases hx
theorem kV {k:Nat}{st:St}{dst f:Nat}{args:List V}{v:V}{s1:St}:∀{es:List af},gf k st dst f args (λv s=>some (v,s)) es=some (v,s1)->
    ∃e∈es,Nat.beq e.id f=true/\e7 k st dst args e (λv s=>some (v,s)) none=some (v,s1)/\gH st dst f args es=gH st dst f args [e]
 |[],hx=>by cases hx
 |e::es,hx=>by
  simp only[gf]at hx;split at hx
  . rename_i hid
    cases hext:e.ar.ext ⟨ofList args,st.h⟩with
    |none=>
     have hx':gf k st dst f args (λv s=>some (v,s)) es=some (v,s1):=by unfold e7 at hx;rw[hext]at hx;exact hx
     obtain⟨e',h1,h2,h3,h4⟩:=kV hx';refine⟨e',bk _ h1,h2,h3,?_⟩;rw[<-h4];show(match Nat.beq e.id f with|true=>_|false=>_)=_;rw[hid];simp only[hext]
    |some q=>
     obtain⟨y,r⟩:=q
     cases hlen:Nat.beq args.length e.ar.temps.length with
     |false=>
      have hx':gf k st dst f args (λv s=>some (v,s)) es=some (v,s1):=by unfold e7 at hx;simp only[hext,hlen]at hx;exact hx
      obtain⟨e',h1,h2,h3,h4⟩:=kV hx';refine⟨e',bk _ h1,h2,h3,?_⟩;rw[<-h4];show(match Nat.beq e.id f with|true=>_|false=>_)=_;rw[hid];simp only[hext,hlen]
     |true=>
      refine⟨e,by simp,hid,?_,?_⟩
      . unfold e7 at hx⊢;simp only[hext,hlen]at hx⊢;exact hx
      . simp only[gH,hid,hext,hlen]
  . rename_i hid;obtain⟨e',h1,h2,h3,h4⟩:=kV hx;refine⟨e',bk _ h1,h2,h3,?_⟩;rw[<-h4];show(match Nat.beq e.id f with|true=>_|false=>_)=_;rw[hid]
end
section
variable {b : Nat → Bool} {st st' : St} {v : V} {s1 : St}
theorem Le.bz (l:Le b st st'):(⟨st'.t,merge b st.h st'.h⟩:St)=st':=by rw[l.h.merge]
theorem Le.ay (l:Le b st st'){x:Operand}{v:V}(hx:R1.ay st x=v)(hv:v.fE=false):R1.ay st' x=v:=by
 cases x with
 |tmp t=>
  simp only[R1.ay]at hx⊢;rcases l.t t with e|e
  . rw[e]at hx;subst hx;cases hv
  . rw[e];exact hx
 |const c=>exact hx
 |global g=>
  simp only[R1.ay]at hx⊢
  cases e:bH (cU g)with
  |false=>rw[e]at hx;exact hx
  |true=>rw[l.h.out _ (l.aB _ e)];rw[e]at hx;exact hx
 |func f=>exact hx
theorem V4 {v:V}{c:C}(h:v.one=some c):v.fE=false:=by cases v<;>first|rfl|cases h
theorem sw {v:V}{cs:List C}(h:v.cells=some cs):v.fE=false:=by cases v<;>first|rfl|cases h
theorem Le.one (l:Le b st st'){x:Operand}{c:C}(hx:(R1.ay st x).one=some c):(R1.ay st' x).one=some c:=by rw[l.ay rfl (V4 hx)];exact hx
theorem Le.cells (l:Le b st st'){x:Operand}{cs:List C}(hx:(R1.ay st x).cells=some cs):(R1.ay st' x).cells=some cs:=by rw[l.ay rfl (sw hx)];exact hx
theorem Le.Jw (l:Le b st st'):∀{xs:List Operand}{vs:List V},xs.map (R1.ay st)=vs->(∀v∈vs,v.fE=false)->xs.map (R1.ay st')=vs
 |[],vs,h,_=>h
 |x::xs,vs,h,hv=>by subst h;rw[cR,cR,l.ay rfl (hv _ (by simp)),l.Jw rfl λv hm=>hv v (by simp at hm⊢;exact .inr hm)]
theorem Le.ja (l:Le b st st'){x:Option Operand}{z:Option Int}(h:R1.ja st x=some z):R1.ja st' x=some z:=by
 cases x with
 |none=>exact h
 |some x=>
  simp only[R1.ja]at h⊢;split at h
  . rename_i e;simp only[l.ay e rfl];exact h
  . cases h
theorem aT {α:Type}{c:Bool}{x:Option α}{r:α}(h:(bif c then x else none)=some r):c=true/\x=some r:=by
 cases c with
 |true=>exact⟨rfl,h⟩
 |false=>cases h
theorem fY {g h0 h0':Nat->B}{t t':Nat->V}(l:LeH b h0 h0')(hg:h0'=merge b h0 g){n:Nat}{x:B}{f:V}(hx:dZ ⟨t,h0⟩ n x (λs=>some (f,s))=some (v,s1)):
    dZ ⟨t',h0'⟩ n x (λs=>some (f,s))=some (v,⟨t',merge b s1.h g⟩):=by
 obtain⟨h1,h2,h3⟩:=eQ hx;injection h3 with h3;injection h3 with h3 h4;subst h3;subst h4;have h1':h0' n=.free:=l.at h1 (by simp);unfold dZ;simp only[h1',h2];rw[cy (l.seen (by rw[show h0 n=.free from h1];simp)),<-hg]
theorem fA {g h0 h0':Nat->B}{t t':Nat->V}(l:LeH b h0 h0')(hg:h0'=merge b h0 g){n e:Nat}{u:U}{xs:List (El u)}{f:V}(hx:newRow ⟨t,h0⟩ n e u xs (λs=>some (f,s))=some (v,s1)):
    newRow ⟨t',h0'⟩ n e u xs (λs=>some (f,s))=some (v,⟨t',merge b s1.h g⟩):=by
 unfold newRow at hx⊢;split at hx
 . exact fY l hg hx
 . cases hx
theorem fZ {g:Nat->B}{t:Nat->V}{n:Nat}{x:B}{f:V}(hx:dZ ⟨t,g⟩ n x (λs=>some (f,s))=some (v,s1)):s1.t=t/\∀k,k≠n->s1.h k=g k:=by obtain⟨h1,h2,h3⟩:=eQ hx;injection h3 with h3;injection h3 with h3 h4;subst h3;subst h4;exact⟨rfl,λk hk=>az _ _ hk⟩
theorem fB {g:Nat->B}{t:Nat->V}{n e:Nat}{u:U}{xs:List (El u)}{f:V}(hx:newRow ⟨t,g⟩ n e u xs (λs=>some (f,s))=some (v,s1)):s1.t=t/\∀k,k≠n->s1.h k=g k:=by
 unfold newRow at hx;split at hx
 . exact fZ hx
 . cases hx
theorem LeH.dN {h h':Nat->B}(l:LeH b h h'){u:U}:∀{ps:List (Nat×V)}{acc r:List (El u)},R1.dN h ps acc=some r->R1.dN h' ps acc=some r
 |[],_,_,hx=>hx
 |(i,x)::ps,acc,r,hx=>by
  simp only[R1.dN]at hx⊢;split at hx
  . split at hx
    . rename_i cs _ y e2;simp only[l.datum e2]
      cases hb:Nat.blt i acc.length with
      |false=>rw[hb]at hx;cases hx
      |true=>rw[hb]at hx;exact l.dN hx
    . cases hx
  . cases hx
theorem tx {h:Nat->B}{u:U}:∀{ps:List (Nat×V)}{acc r:List (El u)},dN h ps acc=some r->(∀q∈ps,q.2.fE=false)/\∀n∈eA ps,h n≠ .gone
 |[],_,_,_=>⟨λq(hq:q∈[])=>(by cases hq),λn(hn:n∈[])=>(by cases hn)⟩
 |(i,x)::ps,acc,r,hx=>by
  simp only[dN]at hx;split at hx
  . rename_i cs e1;split at hx
    . rename_i y e2
      cases hb:Nat.blt i acc.length with
      |false=>rw[hb]at hx;cases hx
      |true=>
       rw[hb]at hx;obtain⟨h1,h2⟩:=tx hx;refine⟨λq hq=> ?_,λn hn=> ?_⟩
       . rcases aG.1 hq with rfl|hq
         . exact sw e1
         . exact h1 q hq
       . cases x with
         |v w=>
          simp only[V.cells,jh]at e1;subst e1;rcases aC.1 hn with hn|hn
          . exact nU e2 n hn
          . exact h2 n hn
         |_=>cases e1
    . cases hx
  . cases hx
theorem ua {fs:List (Nat×Nat)}{size:Nat->Option Nat}:∀{ps:List (Nat×V)}{cs r:List C},iY fs size ps cs=some r->∀q∈ps,q.2.fE=false
 |[],_,_,_,q,hq=>by cases hq
 |(i,x)::ps,cs,r,hx,q,hq=>by
  simp only[iY]at hx;split at hx
  . rename_i off t new e1 e2;split at hx
    . rename_i s _
      cases hb:Nat.beq new.length s with
      |false=>rw[hb]at hx;cases hx
      |true=>
       rw[hb]at hx;simp only[ab]at hx;split at hx
       . rcases aG.1 hq with rfl|hq
         . exact sw e2
         . exact ua hx q hq
       . cases hx
    . cases hx
  . cases hx
theorem Le.parts (l:Le b st st'):∀{ps:List (Nat×Operand)},(∀q∈ps.map (λp=>(p.1,R1.ay st p.2)),q.2.fE=false)->ps.map (λp=>(p.1,R1.ay st' p.2))=ps.map (λp=>(p.1,R1.ay st p.2))
 |[],_=>rfl
 |p::ps,h=>by simp only[cR];rw[l.ay rfl (h (p.1,R1.ay st p.2) (by simp)),l.parts λq hq=>h q (by simp at hq⊢;exact .inr hq)]
theorem Jn (l:LeH b st.h st'.h){i:TI}{a:C}{w:V}(hx:load st i a some=some w):load st' i a some=some w:=by
 unfold load at hx⊢;split at hx
 . rename_i n j sz off
   try simp only
   split at hx
   . rename_i e;rw[l.at e (by simp)];exact hx
   . rename_i e;rw[l.at e (by simp)];exact hx
   . rename_i e;rw[l.at e (by simp)];exact hx
   . rename_i e;rw[l.at e (by simp)];exact hx
   . rename_i e;rw[l.at e (by simp)];exact hx
   . cases hx
 . exact hx
 . cases hx
theorem zR {h0 h0' g:Nat->B}{t t':Nat->V}{s s':St}(hs:s.t=t)(hs':s'.t=t')(l:LeH b h0 h0')(hg:h0'=merge b h0 g){sz off j n:Nat}{new:List C}{r:St}(hx:gm s h0 sz off j n new some=some r):
    gm s' h0' sz off j n new some=some ⟨t',merge b r.h g⟩:=by
 unfold gm at hx⊢;split at hx
 . rename_i e u xs e1;rw[l.at e1 (by simp)]
   try simp only
   cases hb:Nat.beq sz u.n with
   |false=>rw[hb]at hx;cases hx
   |true=>
    rw[hb]at hx;simp only[ab]at hx⊢;obtain⟨y,hy,hx⟩:=bR.1 hx;rw[hy];simp only[aa];split at hx
    . rename_i cs e2;split at hx
      . rename_i z e3;injection hx with hx;subst hx;simp only[l.datum e3];rw[cy (l.seen (by rw[e1];simp)),<-hg,hs']
      . cases hx
    . cases hx
 . cases hx
theorem FU {off:Nat}{new cs cs':List C}(h:pL off new cs=some cs'):∀n∈bn new,n∈bn cs':=by obtain⟨_,rfl⟩:=jF h;intro n hn;simp only[iD,aC];exact .inl (.inr hn)
theorem tA {s:St}{h0:Nat->B}{sz off j n:Nat}{new:List C}{r:St}(hx:gm s h0 sz off j n new some=some r):(∀k∈bn new,h0 k≠ .gone)/\r.t=s.t/\∀k,k≠n->r.h k=h0 k:=by
 unfold gm at hx;split at hx
 . rename_i e u xs e1
   cases hb:Nat.beq sz u.n with
   |false=>rw[hb]at hx;cases hx
   |true=>
    rw[hb]at hx;simp only[ab]at hx;obtain⟨y,hy,hx⟩:=bR.1 hx;split at hx
    . rename_i cs e2;split at hx
      . rename_i z e3;injection hx with hx;subst hx;exact⟨λk hk=>nU e3 k (FU e2 k hk),rfl,λk hk=>az _ _ hk⟩
      . cases hx
    . cases hx
 . cases hx
theorem F4 (l:LeH b st.h st'.h){i:TI}{a:C}{w:V}{r:St}(hx:store false st i a w some=some r):store false st' i a w some=some ⟨st'.t,merge b r.h st'.h⟩:=by
 unfold store at hx⊢;split at hx
 . cases hx
 . rename_i new e0
   cases hb:Nat.beq new.length i.size with
   |false=>rw[hb]at hx;cases hx
   |true=>
    rw[hb]at hx;simp only[ab]at hx⊢;split at hx
    . rename_i n j sz off
      try simp only
      split at hx
      . rename_i t cs e;rw[l.at e (by simp)]
        try simp only
        split at hx
        . rename_i cs' e2;injection hx with hx;subst hx;simp only;rw[cy (l.seen (by rw[e];simp)),l.merge]
        . cases hx
      . rename_i e u xs e1;rw[l.at e1 (by simp)]
        try simp only
        have hs:=(tA hx).1;refine zR (t:=st.t) rfl rfl (l.aZ _) ?_ hx;rw[<-iO _ _ λk hk=>l.seen λhg=>hs k hk (zw _ hg),l.merge]
      . rename_i e o xs e1;rw[l.at e1 (by simp)]
        try simp only
        split at hx
        . rename_i c hq;obtain⟨y,hy,hx⟩:=bR.1 hx
          try simp only[hq]
          rw[hy];simp only[aa];split at hx
          . rename_i z hz;injection hx with hx;subst hx;simp only;rw[cy (l.seen (by rw[e1];simp)),l.merge]
          . simp only[oY,ac]at hx;cases hx
        . cases hx
      . rename_i e o xs k cs e1;rw[l.at e1 (by simp)]
        try simp only
        obtain⟨hq,hx⟩:=aT hx;rw[hq];simp only[ab];split at hx
        . rename_i cs' e2;injection hx with hx;subst hx;simp only;rw[cy (l.seen (by rw[e1];simp)),l.merge]
        . cases hx
      . cases hx
    . cases hx
theorem LeH.news {b:Nat->Bool}{h h':Nat->B}(l:LeH b h h'){u:U}{c:C}{x:List (El u)}(hx:R1.news h u c=some x):R1.news h' u c=some x:=by
 cases c with
 |row n=>
  simp only[R1.news]at hx⊢;have hn:h n≠ .gone:=by intro e;rw[e]at hx;simp only[R1.dv,e]at hx;cases hx
  rw[l.same hn]
  cases e:h n with
  |own=>rw[e]at hx;cases hx
  |_=>rw[e]at hx;exact l.dv hx
 |_=>simp only[R1.news]at hx⊢;exact l.dv hx
theorem Cy (l:LeH b st.h st'.h){dst e:Nat}{ie:TI}{c x:C}(hx:append st dst e ie c x (λv s=>some (v,s))=some (v,s1)):append st' dst e ie c x (λv s=>some (v,s))=some (v,⟨st'.t,merge b s1.h st'.h⟩):=by
 unfold append at hx⊢;split at hx
 . split at hx
   . rename_i l2 e2;simp only[l.news e2];obtain⟨h1,hx⟩:=aT hx;rw[h1];exact fA (t:=st.t) (h0:=st.h) l l.merge.symm hx
   . cases hx
 . rename_i n
   try simp only
   split at hx
   . rename_i e' u xs e1;rw[l.at e1 (by simp)]
     try simp only
     split at hx
     . rename_i h1 h2
       try simp only[h1,h2]
       split at hx
       . rename_i l2 e3;simp only[l.news e3];obtain⟨h4,hx⟩:=aT hx;rw[h4];have hn:=l.seen (n:=n) (by rw[e1];simp);refine fA (t:=st.t) (h0:=upd st.h n .gone) ⟨λk hk=> ?_,λk hk=> ?_⟩ ?_ hx
         . by_cases q:k=n
           . subst q;rw[aj,aj]
           . rw[az _ _ q,az _ _ q];exact l.out k hk
         . by_cases q:k=n
           . subst q;rw[aj]
           . rw[az _ _ q];exact l.gone k hk
         . rw[cy hn,l.merge]
       . cases hx
     . cases hx
   . cases hx
 . cases hx
theorem CA {dst e:Nat}{ie:TI}{c x:C}(hx:append st dst e ie c x (λv s=>some (v,s))=some (v,s1)):s1.t=st.t/\∀k,k≠dst->(∀n,c=.row n->k≠n)->s1.h k=st.h k:=by
 unfold append at hx;split at hx
 . split at hx
   . obtain⟨h1,hx⟩:=aT hx;obtain⟨h2,h3⟩:=fB (t:=st.t) (g:=st.h) hx;exact⟨h2,λk hk _=>h3 k hk⟩
   . cases hx
 . rename_i n;split at hx
   . split at hx
     . split at hx
       . obtain⟨h4,hx⟩:=aT hx;obtain⟨h2,h3⟩:=fB (t:=st.t) (g:=upd st.h n .gone) hx;exact⟨h2,λk hk hn=>by rw[h3 k hk,az _ _ (hn n rfl)]⟩
       . cases hx
     . cases hx
   . cases hx
 . cases hx
theorem Fx (l:LeH b st.h st'.h){cfg:Cfg}{i:TI}{x:C}(hx:gT cfg st i x (λv s=>some (v,s))=some (v,s1)):gT cfg st' i x (λv s=>some (v,s))=some (v,⟨st'.t,merge b s1.h st'.h⟩):=by
 unfold gT at hx⊢;split at hx
 . rename_i e n j sz ek
   try simp only
   split at hx
   . rename_i ie e' u xs e1 e2;simp only[e1,l.at e2 (by simp)];split at hx
     . rename_i h1 h2 h3
       try simp only[h1,h2,h3]
       split at hx
       . rename_i z e3;simp only[l.datum e3];injection hx with hx;injection hx with hx1 hx2;subst hx1;subst hx2;rw[cy (l.seen (by rw[e2];simp)),l.merge]
       . cases hx
     . cases hx
   . cases hx
 . cases hx
theorem Fz {cfg:Cfg}{i:TI}{x:C}(hx:gT cfg st i x (λv s=>some (v,s))=some (v,s1)):s1.t=st.t/\∀k,(∀n j sz,x=.tail n j sz->k≠n)->s1.h k=st.h k:=by
 unfold gT at hx;split at hx
 . rename_i e n j sz ek;split at hx
   . split at hx
     . split at hx
       . injection hx with hx;injection hx with hx1 hx2;subst hx1;subst hx2;exact⟨rfl,λk hk=>az _ _ (hk n j sz rfl)⟩
       . cases hx
     . cases hx
   . cases hx
 . cases hx
theorem FI (l:LeH b st.h st'.h){i:TI}{x:C}{n:Int}(hx:lenOf st i x=some n):lenOf st' i x=some n:=by
 unfold lenOf at hx⊢;split at hx
 all_goals (rename_i ek;try simp only[ek])
 all_goals first
  |exact hx
  |(split at hx
    . rename_i e;(try simp only[l.at e (by simp)]);exact hx
    . rename_i e;(try simp only[l.at e (by simp)]);exact hx
    . rename_i e;(try simp only[l.at e (by simp)]);exact hx
    . rename_i e;(try simp only[l.at e (by simp)]);exact hx
    . cases hx)
  |(split at hx
    . rename_i e;(try simp only[l.at e (by simp)]);exact hx
    . cases hx)
  |cases hx
theorem FD (l:LeH b st.h st'.h){i:TI}{esz:Nat}{x c:C}{j:Int}(hx:indexAddr st i esz x j some=some c):indexAddr st' i esz x j some=some c:=by
 unfold indexAddr at hx⊢;split at hx
 . rename_i ek;(try simp only[ek]);exact hx
 . rename_i ek
   try simp only[ek]
   split at hx
   . rename_i e;(try simp only[l.at e (by simp)]);exact hx
   . rename_i e;(try simp only[l.at e (by simp)]);exact hx
   . rename_i e;(try simp only[l.at e (by simp)]);exact hx
   . rename_i e;(try simp only[l.at e (by simp)]);exact hx
   . cases hx
 . rename_i ek
   try simp only[ek]
   split at hx
   . rename_i e;(try simp only[l.at e (by simp)]);exact hx
   . cases hx
 . rename_i ek;(try simp only[ek]);exact hx
 . rename_i ek
   try simp only[ek]
   split at hx
   . rename_i e;(try simp only[l.at e (by simp)]);exact hx
   . rename_i e;(try simp only[l.at e (by simp)]);exact hx
   . rename_i e;(try simp only[l.at e (by simp)]);exact hx
   . cases hx
 . cases hx
theorem J2 (l:LeH b st.h st'.h){i:TI}{esz:Nat}{x c:C}{lo hi:Option Int}(hx:jH st i esz x lo hi some=some c):jH st' i esz x lo hi some=some c:=by
 unfold jH at hx⊢;split at hx
 . rename_i ek
   try simp only[ek]
   split at hx
   . rename_i e;(try simp only[l.at e (by simp)]);exact hx
   . cases hx
 . cases hx
theorem zV (l:LeH b st.h st'.h){n:Nat}{x:B}(hn:b n=false):LeH b (upd st.h n x) (upd st'.h n x):=by
 refine⟨λk hk=> ?_,λk hk=> ?_⟩
 . by_cases q:k=n
   . subst q;rw[aj,aj]
   . rw[az _ _ q,az _ _ q];exact l.out k hk
 . by_cases q:k=n
   . subst q;rw[hn]at hk;cases hk
   . rw[az _ _ q];exact l.gone k hk
theorem FX (l:LeH b st.h st'.h){i:TI}{esz:Nat}{tr:Bool}{dst:Nat}{x:C}{lo hi:Option Int}(hx:iH st i esz tr dst x lo hi (λv s=>some (v,s))=some (v,s1)):
    iH st' i esz tr dst x lo hi (λv s=>some (v,s))=some (v,⟨st'.t,merge b s1.h st'.h⟩):=by
 have bz:(⟨st'.t,merge b st.h st'.h⟩:St)=st':=by rw[l.merge]
 unfold iH at hx⊢;split at hx
 . rename_i ek
   try simp only
   obtain⟨h1,hx⟩:=aT hx;rw[h1];injection hx with hx;injection hx with hx1 hx2;subst hx1;subst hx2;rw[bz];rfl
 . rename_i ek
   try simp only
   split at hx
   . rename_i hb
     try simp only[hb]
     obtain⟨h1,hx⟩:=aT hx;rw[h1];injection hx with hx;injection hx with hx1 hx2;subst hx1;subst hx2;rw[bz];rfl
   . cases hx
 . rename_i el n ek
   try simp only
   split at hx
   . rename_i e u xs e1;simp only[l.at e1 (by simp)];have hn:=l.seen (n:=n) (by rw[e1];simp);split at hx
     . rename_i hb
       try simp only[hb]
       cases tr with
       |true=>
        simp only[ab]at hx⊢;split at hx
        . obtain⟨h1,hx⟩:=aT hx;simp only[h1,ab];exact fA (t:=st.t) (zV l hn) (by rw[cy hn,l.merge]) hx
        . cases hx
       |false=>simp only[ac]at hx⊢;obtain⟨h1,hx⟩:=aT hx;rw[h1];injection hx with hx;injection hx with hx1 hx2;subst hx1;subst hx2;simp only[ab];rw[cy hn,l.merge]
     . cases hx
   . rename_i e u xs e1;simp only[l.at e1 (by simp)];split at hx
     . rename_i hb
       try simp only[hb]
       obtain⟨h1,hx⟩:=aT hx;rw[h1];injection hx with hx;injection hx with hx1 hx2;subst hx1;subst hx2;rw[bz];rfl
     . cases hx
   . cases hx
 . rename_i el ek
   try simp only
   split at hx
   . rename_i hb
     try simp only[hb]
     obtain⟨h1,hx⟩:=aT hx;rw[h1];injection hx with hx;injection hx with hx1 hx2;subst hx1;subst hx2;rw[bz];rfl
   . cases hx
 . cases hx
theorem FY {i:TI}{esz:Nat}{tr:Bool}{dst:Nat}{x:C}{lo hi:Option Int}(hx:iH st i esz tr dst x lo hi (λv s=>some (v,s))=some (v,s1)):
    s1.t=st.t/\∀k,k∉(match x with|.row n=>(match st.h n with|.row .. =>(match tr with|true=>[n,dst]|false=>[n])|_=>[])|_=>[])->s1.h k=st.h k:=by
 unfold iH at hx;split at hx
 . obtain⟨h1,hx⟩:=aT hx;injection hx with hx;injection hx with hx1 hx2;subst hx1;subst hx2;exact⟨rfl,λ_ _=>rfl⟩
 . split at hx
   . obtain⟨h1,hx⟩:=aT hx;injection hx with hx;injection hx with hx1 hx2;subst hx1;subst hx2;exact⟨rfl,λ_ _=>rfl⟩
   . cases hx
 . rename_i el n ek
   try simp only
   split at hx
   . rename_i e u xs e1;simp only[e1];split at hx
     . cases tr with
       |true=>
        simp only[ab]at hx;split at hx
        . obtain⟨h1,hx⟩:=aT hx;obtain⟨h2,h3⟩:=fB (t:=st.t) hx;refine⟨h2,λk hk=> ?_⟩;simp only[aG,nE,or_false,not_or]at hk;rw[h3 k hk.2,az _ _ hk.1]
        . cases hx
       |false=>simp only[ac]at hx;obtain⟨h1,hx⟩:=aT hx;injection hx with hx;injection hx with hx1 hx2;subst hx1;subst hx2;refine⟨rfl,λk hk=> ?_⟩;simp only[aG,nE,or_false]at hk;exact az _ _ hk
     . cases hx
   . split at hx
     . obtain⟨h1,hx⟩:=aT hx;injection hx with hx;injection hx with hx1 hx2;subst hx1;subst hx2;exact⟨rfl,λ_ _=>rfl⟩
     . cases hx
   . cases hx
 . split at hx
   . obtain⟨h1,hx⟩:=aT hx;injection hx with hx;injection hx with hx1 hx2;subst hx1;subst hx2;exact⟨rfl,λ_ _=>rfl⟩
   . cases hx
 . cases hx
end
section
variable {b : Nat → Bool} {h h' : Nat → B} {v : V} {s1 : St}
theorem FT {k:Nat}{cs:List C}{n:Nat}(hn:n∈bn (cs.drop k)):n∈bn cs:=by rw[<-gJ k cs,iD];exact List.mem_append_right _ hn
theorem HQ {t:Nat}{e:O}{n:Nat}{l:List (El e.u)}(hx:xA t e (h n)=some l):h n≠ .gone:=by intro q;rw[q]at hx;cases hx
theorem LeH.cr (l:LeH b h h'):∀{o:O}{cs r:List C}{x:El o.u}{ns:List Nat},R1.cr h o cs=some (x,r,ns)->
    R1.cr h' o cs=some (x,r,ns)/\(∀n∈ns,h n≠ .gone/\n∈bn cs)/\∀n∈bn r,n∈bn cs
 |.d u,cs,r,x,ns,hx=>by
  simp only[R1.cr]at hx⊢;split at hx
  . rename_i y e1 e2;injection hx with hx;injection hx with h1 h2;injection h2 with h2 h3;subst h1;subst h2;subst h3;refine⟨?_,λn hn=>(by cases hn),λn hn=>FT hn⟩;have:(bn (cs.take u.n)).all (λn=> !(h' n).isRow)=true:=by rw[dj]at e2⊢;intro n hn;rw[l.same (nU e1 n hn)];exact e2 n hn
    rw[l.datum e1,this]
  . cases hx
 |.p a c,cs,r,x,ns,hx=>by
  simp only[R1.cr]at hx⊢;split at hx
  . rename_i y r1 n1 e1;obtain⟨a1,a2,a3⟩:=l.cr e1;split at hx
    . rename_i z r2 n2 e2;obtain⟨b1,b2,b3⟩:=l.cr e2;injection hx with hx;injection hx with h1 h2;injection h2 with h2 h3;subst h1;subst h2;subst h3;refine⟨by rw[a1];simp only[b1],λn hn=> ?_,λn hn=>a3 n (b3 n hn)⟩;rcases aC.1 hn with hn|hn
      . exact a2 n hn
      . exact⟨(b2 n hn).1,a3 n (b2 n hn).2⟩
    . cases hx
  . cases hx
 |.s t e,cs,r,x,ns,hx=>by
  simp only[R1.cr]at hx⊢;split at hx
  . rename_i r';split at hx
    . rename_i e1;injection hx with hx;injection hx with h1 h2;injection h2 with h2 h3;subst h1;subst h2;subst h3;exact⟨by simp only,λn hn=>(by cases hn),λn hn=>hn⟩
    . cases hx
  . rename_i n r';split at hx
    . rename_i xs e1;injection hx with hx;injection hx with h1 h2;injection h2 with h2 h3;subst h1;subst h2;subst h3;have hs:=HQ e1;refine⟨by simp only[l.same hs,e1],λm hm=> ?_,λm hm=>bk _ hm⟩;rw[bG.1 hm];exact⟨hs,aG.2 (.inl rfl)⟩
    . cases hx
  . cases hx
theorem LeH.dG (l:LeH b h h'){o:O}:∀{ps:List (Nat×V)}{i:Nat}{xs:List (El o.u)}{ns:List Nat},R1.dG h o i ps=some (xs,ns)->
    R1.dG h' o i ps=some (xs,ns)/\(∀q∈ps,q.2.fE=false)/\∀n∈ns,h n≠ .gone/\n∈eA ps
 |[],i,xs,ns,hx=>by
  simp only[R1.dG]at hx⊢;injection hx with hx;injection hx with h1 h2;subst h1;subst h2;exact⟨rfl,λq hq=>(by cases hq),λn hn=>(by cases hn)⟩
 |(j,.v w)::ps,i,xs,ns,hx=>by
  simp only[R1.dG]at hx⊢;split at hx
  . rename_i x n1 e1 e2;obtain⟨a1,a2,_⟩:=l.cr e2;split at hx
    . rename_i ys n2 e3;obtain⟨b1,b2,b3⟩:=l.dG e3;injection hx with hx;injection hx with h1 h2;subst h1;subst h2;refine⟨by simp only[e1,a1,b1],λq hq=> ?_,λn hn=> ?_⟩
      . rcases aG.1 hq with rfl|hq
        . rfl
        . exact b2 q hq
      . rcases aC.1 hn with hn|hn
        . exact⟨(a2 n hn).1,List.mem_append_left _ (a2 n hn).2⟩
        . exact⟨(b3 n hn).1,List.mem_append_right _ (b3 n hn).2⟩
    . cases hx
  . cases hx
 |(j,.bad)::ps,i,xs,ns,hx=>by simp[R1.dG]at hx
 |(j,.und)::ps,i,xs,ns,hx=>by simp[R1.dG]at hx
 |(j,.tup _)::ps,i,xs,ns,hx=>by simp[R1.dG]at hx
theorem LeH.cC :∀(ns:List Nat){h h':Nat->B},LeH b h h'->(∀n∈ns,b n=false)->LeH b (R1.cC h ns) (R1.cC h' ns)
 |[],_,_,l,_=>l
 |n::ns,h,h',l,hs=>by
  refine LeH.cC ns ⟨λk hk=> ?_,λk hk=> ?_⟩ λk hk=>hs k (bk _ hk)
  . by_cases e:k=n
    . subst e;rw[aj,aj]
    . rw[az _ _ e,az _ _ e];exact l.out k hk
  . by_cases e:k=n
    . subst e;rw[aj]
    . rw[az _ _ e];exact l.gone k hk
theorem qI (g:Nat->B):∀(ns:List Nat){h:Nat->B},(∀n∈ns,b n=false)->cC (merge b h g) ns=merge b (cC h ns) g
 |[],_,_=>rfl
 |n::ns,h,hs=>by show cC (upd (merge b h g) n .gone) ns=merge b (cC (upd h n .gone) ns) g;rw[<-cy (hs n (by simp))];exact qI g ns λk hk=>hs k (bk _ hk)
theorem qH :∀(ns:List Nat){h:Nat->B}{n:Nat},n∉ns->cC h ns n=h n
 |[],_,_,_=>rfl
 |m::ns,h,n,hn=>by simp only[aG,not_or]at hn;show cC (upd h m .gone) ns n=h n;rw[qH ns hn.2,az _ _ hn.1]
theorem pG {g h0 h0':Nat->B}{t t':Nat->V}(l:LeH b h0 h0')(hg:h0'=merge b h0 g){n e:Nat}{o:O}{xs:List (El o.u)}{f:V}(hx:gY ⟨t,h0⟩ n e o xs (λs=>some (f,s))=some (v,s1)):
    gY ⟨t',h0'⟩ n e o xs (λs=>some (f,s))=some (v,⟨t',merge b s1.h g⟩):=by
 unfold gY at hx⊢;split at hx
 . exact fY l hg hx
 . cases hx
theorem pH {g:Nat->B}{t:Nat->V}{n e:Nat}{o:O}{xs:List (El o.u)}{f:V}(hx:gY ⟨t,g⟩ n e o xs (λs=>some (f,s))=some (v,s1)):s1.t=t/\∀k,k≠n->s1.h k=g k:=by
 unfold gY at hx;split at hx
 . exact fZ hx
 . cases hx
theorem LeH.ga (l:LeH b h h'){e:Nat}{o:O}{c:C}{xs:List (El o.u)}{ns:List Nat}(hx:R1.ga h e o c=some (xs,ns)):
    R1.ga h' e o c=some (xs,ns)/\∀n∈ns,h n≠ .gone/\n∈bn [c]:=by
 cases c with
 |nils=>
  simp only[R1.ga]at hx⊢;injection hx with hx;injection hx with h1 h2;subst h1;subst h2;exact⟨rfl,λn hn=>by cases hn⟩
 |row m=>
  simp only[R1.ga]at hx⊢;split at hx
  . rename_i t o' xs' e1;simp only[l.at e1 (by simp)]
    cases h2:Nat.beq t e with
    |false=>rw[h2]at hx;cases hx
    |true=>
     rw[h2]at hx;simp only[ab]at hx⊢;split at hx
     . rename_i q;injection hx with hx;injection hx with h3 h4;subst h3;subst h4;rw[gE q];refine⟨rfl,λn hn=> ?_⟩;rw[bG.1 hn];exact⟨by rw[e1];simp,aG.2 (.inl rfl)⟩
     . cases hx
  . cases hx
 |_=>cases hx
theorem xu {st st':St}(l:LeH b st.h st'.h){dst e:Nat}{o:O}{ie:TI}{c x:C}(hx:fu st dst e o ie c x (λv s=>some (v,s))=some (v,s1)):
    fu st' dst e o ie c x (λv s=>some (v,s))=some (v,⟨st'.t,merge b s1.h st'.h⟩):=by
 unfold fu at hx⊢;split at hx
 . rename_i l1 ns l2 ms e1 e2;obtain⟨a1,a2⟩:=l.ga e1;obtain⟨b1,b2⟩:=l.ga e2;simp only[a1,b1];split at hx
   . rename_i e3 e4
     try simp only[e3,e4]
     obtain⟨h1,hx⟩:=aT hx;rw[h1]
     have hs:∀n∈ns++ms,b n=false:=λn hn=>by
      rcases aC.1 hn with hn|hn
      . exact l.seen (a2 n hn).1
      . exact l.seen (b2 n hn).1
     refine pG (t:=st.t) (l.cC _ hs) ?_ hx;rw[<-qI _ _ hs,l.merge]
   . cases hx
 . cases hx
theorem xz {st:St}{dst e:Nat}{o:O}{ie:TI}{c x:C}(hx:fu st dst e o ie c x (λv s=>some (v,s))=some (v,s1)):
    s1.t=st.t/\∀k,k≠dst->k∉bn [c]->k∉bn [x]->s1.h k=st.h k:=by
 have l:LeH (λ_=>false) st.h st.h:=⟨λ_ _=>rfl,λ_ h=>by cases h⟩;unfold fu at hx;split at hx
 . rename_i l1 ns l2 ms e1 e2;obtain⟨_,a2⟩:=l.ga e1;obtain⟨_,b2⟩:=l.ga e2;split at hx
   . obtain⟨_,hx⟩:=aT hx;obtain⟨h1,h2⟩:=pH (t:=st.t) hx;refine⟨h1,λk hk hc hd=> ?_⟩;rw[h2 k hk];refine qH _ λhm=> ?_
     rcases aC.1 hm with hm|hm
     . exact hc (a2 k hm).2
     . exact hd (b2 k hm).2
   . cases hx
 . cases hx
end
section
variable {b : Nat → Bool} {st st' : St}
theorem Km (l:LeH b st.h st'.h){ti:TI}{a:C}{x:Nat×Nat×Nat}(h:jz st ti a=some x):jz st' ti a=some x:=by obtain⟨n,len,off⟩:=x;obtain⟨el,sz,t,cs,ek,rfl,eh⟩:=qD h;simp only[jz,ek,l.at eh (by simp)]
theorem yZ (l:LeH b st.h st'.h){ti:TI}{a:C}{esz:Nat}{j:Int}{c:C}(h:jz st ti a=none)(hi:indexAddr st ti esz a.pO j some=some c):jz st' ti a=none:=by
 cases e:jz st' ti a with
 |none=>rfl
 |some x=>
  obtain⟨n,len,off⟩:=x;obtain⟨el,sz,t,cs,ek,rfl,eh⟩:=qD e;simp only[C.pO,indexAddr,ek]at hi
  cases hb:b n with
  |true=>rw[l.gone n hb]at hi;cases hi
  |false=>rw[l.out n hb]at eh;simp only[jz,ek,eh]at h;cases h
theorem KB {a:Bool}{u:U}{x:V}{y:El u}(h:dP a u x=some y):x.fE=false:=by cases x<;>first|rfl|cases h
theorem Le.dP (l:Le b st st'){a:Bool}{u:U}{x:Operand}{y:El u}(h:R1.dP a u (R1.ay st x)=some y):R1.dP a u (R1.ay st' x)=some y:=by rw[l.ay rfl (KB h)];exact h
theorem ui (l:Le b st st'){ik ie:TI}{z:Option (El ie.u)}{eq:Option (El ik.u->El ik.u->Bool)}{t:Nat}{x y:Operand}{ok:Bool}{v:V}(h:fW st ik ie z eq t (R1.ay st x) (R1.ay st y) ok some=some v):
    fW st' ik ie z eq t (R1.ay st' x) (R1.ay st' y) ok some=some v:=by
 unfold fW at h;split at h
 case h_2=>cases h
 rename_i z eq k ez eeq ek;unfold fW;simp only[l.dP ek]at h⊢;split at h
 . rename_i hx;simp only[l.ay hx rfl];exact h
 . rename_i n hx;simp only[l.ay hx rfl];split at h
   . rename_i en;simp only[l.h.at en (by simp)];exact h
   . cases h
 . cases h
theorem Fl (l:Le b st st'){ik ie:TI}{eq:Option (El ik.u->El ik.u->Bool)}{t:Nat}{x y z:Operand}{r:St}(h:fH st ik ie eq t (R1.ay st x) (R1.ay st y) (R1.ay st z) some=some r):
    fH st' ik ie eq t (R1.ay st' x) (R1.ay st' y) (R1.ay st' z) some=some ⟨st'.t,merge b r.h st'.h⟩:=by
 unfold fH at h;split at h
 case h_2=>cases h
 rename_i eq k v eeq ek ev;unfold fH;simp only[l.dP ek,l.dP ev]at h⊢;split at h
 case h_2=>cases h
 rename_i bb n hx;simp only[l.ay hx rfl]
 cases bb with
 |true=>cases h
 |false=>
  simp only[ac]at h⊢;split at h
  case h_2=>cases h
  rename_i en;simp only[l.h.at en (by simp)];split at h
  case h_2=>cases h
  rename_i hb;split at h
  case isFalse=>cases h
  rename_i hu;injection h with h;subst h;simp only[gE hu];rw[cy (l.h.seen (by rw[en];simp)),l.h.merge]
theorem FB (l:Le b st st'){ik ie:TI}{z:Option (El ie.u)}{eq:Option (El ik.u->El ik.u->Bool)}{t:Nat}{x y:Operand}{v:V}{r:St}(h:iU st ik ie z eq t (R1.ay st x) (R1.ay st y) (λv s=>some (v,s))=some (v,r)):
    iU st' ik ie z eq t (R1.ay st' x) (R1.ay st' y) (λv s=>some (v,s))=some (v,⟨st'.t,merge b r.h st'.h⟩):=by
 unfold iU at h;split at h
 case h_2=>cases h
 rename_i z eq k ez eeq ek;unfold iU;simp only[l.dP ek]at h⊢;split at h
 case h_2=>cases h
 rename_i bb n hx;simp only[l.ay hx rfl]
 cases bb with
 |true=>cases h
 |false=>
  simp only[ac]at h⊢;split at h
  case h_2=>cases h
  rename_i en;simp only[l.h.at en (by simp)];split at h
  case h_2=>cases h
  rename_i hb;split at h
  case isFalse=>cases h
  rename_i hu;simp only[gE hu];split at h
  case h_2=>cases h
  rename_i w ew;injection h with h;injection h with h1 h2;subst h1;subst h2;simp only;rw[cy (l.h.seen (by rw[en];simp)),l.h.merge]
theorem wU (l:Le b st st'){ie:TI}{t:Nat}{x y z:Operand}{r:St}(h:fv st ie t (R1.ay st x) (R1.ay st y) (R1.ay st z) some=some r):
    fv st' ie t (R1.ay st' x) (R1.ay st' y) (R1.ay st' z) some=some ⟨st'.t,merge b r.h st'.h⟩:=by
 unfold fv at h;split at h
 case h_2=>cases h
 rename_i bb n kk j v hx hy ev;unfold fv;simp only[l.dP ev,l.ay hx rfl,l.ay hy rfl]at h⊢
 cases bb with
 |true=>cases h
 |false=>
  simp only[ac]at h⊢;split at h
  case h_2=>cases h
  rename_i en;simp only[l.h.at en (by simp)];split at h
  case h_2=>cases h
  rename_i hb;split at h
  case isFalse=>cases h
  rename_i hu;obtain⟨p,hp,h⟩:=bR.1 h;injection h with h;subst h;simp only[gE hu,hp,aa];rw[cy (l.h.seen (by rw[en];simp)),l.h.merge]
theorem FC {ik ie:TI}{z:Option (El ie.u)}{eq:Option (El ik.u->El ik.u->Bool)}{t:Nat}{x y:V}{v:V}{r:St}(h:iU st ik ie z eq t x y (λv s=>some (v,s))=some (v,r)):∃c n,x=.v (.c (.mapr c n))/\r.t=st.t/\∀k,k≠n->r.h k=st.h k:=by
 unfold iU at h;split at h
 case h_2=>cases h
 split at h
 case h_2=>cases h
 rename_i bb n
 cases bb with
 |true=>cases h
 |false=>
  simp only[ac]at h;split at h
  case h_2=>cases h
  split at h
  case h_2=>cases h
  split at h
  case isFalse=>cases h
  split at h
  case h_2=>cases h
  injection h with h;injection h with h1 h2;subst h2;exact⟨false,n,rfl,rfl,λk hk=>az _ _ hk⟩
theorem wV {ie:TI}{t:Nat}{x y z:V}{r:St}(h:fv st ie t x y z some=some r):∃c n,x=.v (.c (.mapr c n))/\r.t=st.t/\∀k,k≠n->r.h k=st.h k:=by
 unfold fv at h;split at h
 case h_2=>cases h
 rename_i bb n kk j v ev
 cases bb with
 |true=>cases h
 |false=>
  simp only[ac]at h;split at h
  case h_2=>cases h
  split at h
  case h_2=>cases h
  split at h
  case isFalse=>cases h
  obtain⟨p,hp,h⟩:=bR.1 h;injection h with h;subst h;exact⟨false,n,rfl,rfl,λk hk=>az _ _ hk⟩
theorem Fm {ik ie:TI}{eq:Option (El ik.u->El ik.u->Bool)}{t:Nat}{x y z:V}{r:St}(h:fH st ik ie eq t x y z some=some r):∃c n,x=.v (.c (.mapr c n))/\r.t=st.t/\∀k,k≠n->r.h k=st.h k:=by
 unfold fH at h;split at h
 case h_2=>cases h
 split at h
 case h_2=>cases h
 rename_i bb n
 cases bb with
 |true=>cases h
 |false=>
  simp only[ac]at h;split at h
  case h_2=>cases h
  split at h
  case h_2=>cases h
  split at h
  case isFalse=>cases h
  injection h with h;subst h;exact⟨false,n,rfl,rfl,λk hk=>az _ _ hk⟩
theorem LeH.upd (l:LeH b st.h st'.h){n:Nat}(x:B)(hn:b n=false):LeH b (R1.upd st.h n x) (R1.upd st'.h n x):=by
 refine⟨λk hk=> ?_,λk hk=> ?_⟩
 . by_cases q:k=n
   . subst q;rw[aj,aj]
   . rw[az _ _ q,az _ _ q];exact l.out k hk
 . by_cases q:k=n
   . subst q;rw[hn]at hk;cases hk
   . rw[az _ _ q];exact l.gone k hk
theorem J4 (l:Le b st st'){ik ie:TI}{eq:Option (El ik.u->El ik.u->Bool)}{t dst:Nat}{x y:Operand}{v:V}{r:St}(h:jU st ik ie eq t dst (R1.ay st x) (R1.ay st y) (λv s=>some (v,s))=some (v,r)):
    jU st' ik ie eq t dst (R1.ay st' x) (R1.ay st' y) (λv s=>some (v,s))=some (v,⟨st'.t,merge b r.h st'.h⟩):=by
 unfold jU at h;split at h
 case h_2=>cases h
 rename_i eq k eeq ek ez ea;unfold jU;simp only[l.dP ek,ez,ea]at h⊢;split at h
 case h_2=>cases h
 rename_i bb n hx;simp only[l.ay hx rfl];split at h
 case h_2=>cases h
 rename_i en;simp only[l.h.at en (by simp)];split at h
 case h_2=>cases h
 rename_i hb;split at h
 case isFalse=>cases h
 rename_i hu;obtain⟨p,hp,h⟩:=bR.1 h;have hn:=l.h.seen (n:=n) (by rw[en];simp);simp only[gE hu,hp,aa];exact fY (t:=st.t) (l.h.upd _ hn) (by rw[cy hn,l.h.merge]) h
theorem ye (l:Le b st st'){x:Operand}{r:Bool}(h:sL st (R1.ay st x)=r)(hs:r=true\/∃c n,R1.ay st x=.v (.c (.mapr c n))/\st.h n≠ .gone):sL st' (R1.ay st' x)=r:=by
 unfold sL at h⊢;rcases hs with rfl|⟨c,n,hx,hn⟩
 . split at h
   . rename_i bb n hx;simp only[l.ay hx rfl];split at h
     . rename_i en;simp only[l.h.at en (by simp)]
     . cases h
   . cases h
 . simp only[hx]at h;simp only[l.ay hx rfl,l.h.same hn];exact h
theorem EV (l:Le b st st'){ik:TI}{eq:Option (El ik.u->El ik.u->Bool)}{t:Nat}{x y z:Operand}{r:St}(h:gC st ik eq t (R1.ay st x) (R1.ay st y) (R1.ay st z) some=some r):
    gC st' ik eq t (R1.ay st' x) (R1.ay st' y) (R1.ay st' z) some=some ⟨st'.t,merge b r.h st'.h⟩:=by
 unfold gC at h;split at h
 case h_2=>cases h
 rename_i eq k m ek ez;unfold gC;simp only[l.dP ek,l.ay ez rfl]at h⊢;split at h
 case h_2=>cases h
 rename_i bb n hx;simp only[l.ay hx rfl]
 cases bb with
 |true=>cases h
 |false=>
  simp only[ac]at h⊢;split at h
  case h_2=>cases h
  rename_i en em;have hn:=l.h.seen (n:=n) (by rw[en];simp);have hm:=l.h.seen (n:=m) (by rw[em];simp);simp only[l.h.at en (by simp),l.h.at em (by simp)];split at h
  case h_2=>cases h
  rename_i hb;split at h
  case isFalse=>cases h
  rename_i hu;injection h with h;subst h;simp only[gE hu];rw[cy hn,cy hm,l.h.merge]
theorem Gb {ik ie:TI}{eq:Option (El ik.u->El ik.u->Bool)}{t:Nat}{x y z:V}{r:St}(h:fH st ik ie eq t x y z some=some r):∃c n,x=.v (.c (.mapr c n))/\st.h n≠ .gone:=by
 unfold fH at h;split at h
 case h_2=>cases h
 split at h
 case h_2=>cases h
 rename_i bb n
 cases bb with
 |true=>cases h
 |false=>
  simp only[ac]at h;split at h
  case h_2=>cases h
  rename_i en;exact⟨_,_,rfl,by rw[en];simp⟩
theorem Jt (l:Le b st st'){x:Operand}{r:St}(h:mN st (R1.ay st x) some=some r):∃r',mN st' (R1.ay st' x) some=some r'/\Le b r r'/\r'=⟨st'.t,merge b r.h st'.h⟩/\(∀y,R1.ay r y=R1.ay st y)/\∀y,R1.ay r' y=R1.ay st' y:=by
 obtain⟨c,n,t,ka,ku,e,u,xs,xs',hx,en,hl,h⟩:=sP h;injection h with h;subst h;have hn:=l.h.seen (n:=n) (by rw[en];simp);have en':st'.h n=.mr t ka ku e u xs:=l.h.at en (by simp);refine⟨{st' with h:=upd st'.h n (.mp t ka false ku (.sl u) xs')},?_,⟨l.t,l.h.upd _ hn,l.aB⟩,?_,λy=>qh en y,λy=>qh en' y⟩
 . simp only[l.ay hx rfl,mN,en',hl];rfl
 . rw[cy hn,l.h.merge]
theorem J5 {ik ie:TI}{eq:Option (El ik.u->El ik.u->Bool)}{t dst:Nat}{x y:V}{v:V}{r:St}(h:jU st ik ie eq t dst x y (λv s=>some (v,s))=some (v,r)):∃c n,x=.v (.c (.mapr c n))/\r.t=st.t/\∀k,k≠n->k≠dst->r.h k=st.h k:=by
 unfold jU at h;split at h
 case h_2=>cases h
 split at h
 case h_2=>cases h
 rename_i bb n;split at h
 case h_2=>cases h
 split at h
 case h_2=>cases h
 split at h
 case isFalse=>cases h
 obtain⟨p,hp,h⟩:=bR.1 h;obtain⟨h1,h2⟩:=fZ (t:=st.t) h;exact⟨_,_,rfl,h1,λk hk hd=>by rw[h2 k hd];exact az _ _ hk⟩
theorem EW {ik:TI}{eq:Option (El ik.u->El ik.u->Bool)}{t:Nat}{x y z:V}{r:St}(h:gC st ik eq t x y z some=some r):∃c n m,x=.v (.c (.mapr c n))/\z=.v (.c (.row m))/\r.t=st.t/\∀k,k≠n->k≠m->r.h k=st.h k:=by
 unfold gC at h;split at h
 case h_2=>cases h
 split at h
 case h_2=>cases h
 rename_i m _ _ bb n
 cases bb with
 |true=>cases h
 |false=>
  simp only[ac]at h;split at h
  case h_2=>cases h
  split at h
  case h_2=>cases h
  split at h
  case isFalse=>cases h
  injection h with h;subst h;exact⟨_,_,_,rfl,rfl,rfl,λk hk hm=>(az _ _ hk).trans (az _ _ hm)⟩
theorem wE {cfg:Cfg}(l:LeH b st.h st'.h){dst t':Nat}{i:TI}{c x:C}{v:V}{s1:St}(hx:dW cfg st dst t' i c x (λv s=>some (v,s))=some (v,s1)):dW cfg st' dst t' i c x (λv s=>some (v,s))=some (v,⟨st'.t,merge b s1.h st'.h⟩):=by
 unfold dW at hx;split at hx
 case h_2=>cases hx
 rename_i ek et;split at hx
 case h_2=>cases hx
 rename_i eik ee;split at hx
 case h_2=>cases hx
 rename_i z ez;obtain⟨h1,hx⟩:=aT hx;unfold dW;simp only[ek,et,eik,ee,l.datum ez,h1,ab];exact fA (t:=st.t) (h0:=st.h) l l.merge.symm hx
theorem wG {cfg:Cfg}{dst t':Nat}{i:TI}{c x:C}{v:V}{s1:St}(hx:dW cfg st dst t' i c x (λv s=>some (v,s))=some (v,s1)):c=.nils/\s1.t=st.t/\∀k,k≠dst->s1.h k=st.h k:=by
 unfold dW at hx;split at hx
 case h_2=>cases hx
 split at hx
 case h_2=>cases hx
 split at hx
 case h_2=>cases hx
 obtain⟨h1,hx⟩:=aT hx;obtain⟨h2,h3⟩:=fB (t:=st.t) (g:=st.h) hx;exact⟨rfl,h2,h3⟩
end
section
variable {b : Nat → Bool} {cfg : Cfg} {st st' : St} {v : V} {s1 : St}
theorem bw {α β:Type}{a a':α}{x x':β}(h:some (a,x)=some (a',x')):a=a'/\x=x':=by injection h with h;injection h with h1 h2;exact⟨h1,h2⟩
theorem de {α:Type}{x:Option α}{f:α->V}(h:x.bind (λc=>some (f c,st))=some (v,s1)):∃c,x=some c/\f c=v/\st=s1:=by obtain⟨c,hc,h⟩:=bR.1 h;obtain⟨h1,h2⟩:=bw h;exact⟨c,hc,h1,h2⟩
theorem Pu {c:C}{n:Nat}(h:c.pO=.row n):c=.row n:=by cases c<;>first|exact h|cases h
theorem HW (l:LeH b st.h st'.h){i j:TI}{c c':C}(hx:conv cfg st i j c some=some c'):conv cfg st' i j c some=some c':=by
 have key:∀{c:C},(match j.k,i.k with
     |.str,.sl e=>match cfg.ty e with
      |some ie=>match ie.k with
       |.int .u8=>match R1.dv st.h (.int .u8) c with
        |some l=>some (C.str (lH l))
        |none=>none
       |_=>none
      |none=>none
     |_,_=>none)=some c'->(match j.k,i.k with
     |.str,.sl e=>match cfg.ty e with
      |some ie=>match ie.k with
       |.int .u8=>match R1.dv st'.h (.int .u8) c with
        |some l=>some (C.str (lH l))
        |none=>none
       |_=>none
      |none=>none
     |_,_=>none)=some c':=by
  intro c hx;split at hx
  . split at hx
    . split at hx
      . split at hx
        . rename_i xs hd;rw[l.dv hd];exact hx
        . cases hx
      . cases hx
    . cases hx
  . cases hx
 cases c<;>first|exact hx|exact key hx
@[reducible] def Cfg.plain (cfg : Cfg) : Prop := cfg.opens = [] ∧ cfg.whole = false
theorem IN (hp:cfg.plain)(l:Le b st st')(hes:cfg.fns=[]\/∃e,cfg.fns=[e]){o:Oper}(ha:qT st o=true)(h:aS cfg st o (λv s=>some (v,s))=some (v,s1))(hv:v.fE=false):
    aS cfg st' o (λv s=>some (v,s))=some (v,⟨st'.t,merge b s1.h st'.h⟩):=by
 have bz:=l.bz;by_cases hf:∃f fs cs,o.op=.makeFunc f fs cs
 . obtain⟨f,fs,cs,ho⟩:=hf;cases f<;>simp only[aS,ho]at h⊢
   case func f=>
    split at h
    . rename_i c e1 e2;obtain⟨rfl,rfl⟩:=bw h
      have hok:∀{vs:List V}{g c:C},kW g vs=some c->∀v∈vs,v.fE=false:=by
       intro vs
       induction vs with
       |nil=>intro g c _ v hv;cases hv
       |cons x vs ih=>
        intro g c hc v hv
        cases x with
        |v w=>cases w with
         |c y=>
          simp only[kW]at hc;rcases aG.1 hv with rfl|hv
          . rfl
          . exact ih hc v hv
         |agg=>cases hc
        |_=>cases hc
      rw[l.Jw rfl (hok e2)]
      try simp only[e1,e2,bz]
    . cases h
   all_goals cases h
 by_cases hs:∃t x lo hi mx,o.op=.slice t x lo hi mx
 . obtain⟨t,x,lo,hi,mx,ho⟩:=hs
   cases mx with
   |some m=>simp only[aS,ho]at h;cases h
   |none=>
    simp only[aS,ho]at h⊢;split at h
    . rename_i e1 e2 e3 e4
      try simp only[e1,l.one e2,l.ja e3,l.ja e4]
      cases htl:cfg.tails.any (Nat.beq (Oper.name o))with
      |true=>
       rw[htl]at h;simp only[ab]at h⊢;rw[n8]at h⊢;obtain⟨c,hc,rfl,rfl⟩:=de h;rw[J2 l.h hc,bz];rfl
      |false=>rw[htl]at h;simp only[ac]at h⊢;exact FX l.h h
    . cases h
 by_cases hmm:∃t x,o.op=.makeMap t x
 . obtain⟨t,x,ho⟩:=hmm
   cases x with
   |some m=>simp only[aS,ho]at h;cases h
   |none=>
    simp only[aS,ho]at h⊢;split at h
    . rename_i e1
      try simp only[e1]
      split at h
      . rename_i ek
        try simp only[ek]
        split at h
        . rename_i e2 e3
          try simp only[e2,e3]
          split at h
          . rename_i e4
            try simp only[e4]
            exact fY (t:=st.t) l.h l.h.merge.symm h
          . cases h
        . cases h
      . cases h
    . cases h
 cases ho:o.op<;>(try simp only[aS,ho,hp.1,hp.2,List.any_nil,ac]at h⊢)
 case move x=>obtain⟨rfl,rfl⟩:=bw h;rw[l.ay rfl hv,bz]
 case assign x=>obtain⟨rfl,rfl⟩:=bw h;rw[l.ay rfl hv,bz]
 case pick c x y=>
  split at h
  . rename_i t e;simp only[l.ay e rfl]
    cases t with
    |true=>obtain⟨rfl,rfl⟩:=bw h;simp only[ab];rw[l.ay rfl hv,bz]
    |false=>obtain⟨rfl,rfl⟩:=bw h;simp only[ac];rw[l.ay rfl hv,bz]
  . cases h
 case alloc t=>
  split at h
  . rename_i i e1
    try simp only[e1]
    split at h
    . rename_i n e ek
      try simp only[ek]
      split at h
      . rename_i ie e2
        try simp only[e2]
        split at h
        . rename_i xs e3;simp only[l.h.dY e3];obtain⟨h1,h⟩:=aT h;rw[h1];exact fA (t:=st.t) l.h l.h.merge.symm h
        . cases h
      . cases h
    . rename_i hk;obtain⟨h1,h⟩:=aT h;rw[h1];exact fY (t:=st.t) l.h l.h.merge.symm h
  . cases h
 case box t x=>
  split at h
  . rename_i i cs e1 e2
    try simp only[e1,l.cells e2]
    split at h
    . rename_i n e ek
      try simp only[ek]
      split at h
      . rename_i ie e3
        try simp only[e3]
        split at h
        . rename_i xs e4;simp only[l.h.dY e4];obtain⟨h1,h⟩:=aT h;rw[h1];refine fA (t:=st.t) (l.h.aZ _) ?_ h;rw[<-iO _ _ λk hk=>l.h.seen (BL e4 k hk),l.h.merge]
        . cases h
      . cases h
    . rename_i hk;exact fY (t:=st.t) l.h l.h.merge.symm h
  . cases h
 case build t ps=>
  split at h
  . rename_i i e1
    try simp only[e1]
    split at h
    . rename_i fs ek
      try simp only[ek]
      split at h
      . rename_i cs e2 e3;obtain⟨rfl,rfl⟩:=bw h;rw[l.parts (ua e2)]
        try simp only[e2,e3,bz]
      . cases h
    . cases h
  . cases h
 case buildSlice t n ps=>
  split at h
  . rename_i i e1
    try simp only[e1]
    split at h
    . rename_i e ek
      try simp only[ek]
      split at h
      . rename_i ie e2
        try simp only[e2]
        split at h
        . rename_i sh esh
          try simp only[esh]
          split at h
          . rename_i xs ns e4;obtain⟨q1,q2,q3⟩:=l.h.dG e4;rw[l.parts q2];simp only[q1];split at h
            . rename_i e5 e6
              try simp only[e5,e6]
              obtain⟨h1,h⟩:=aT h;rw[h1];have hs:∀n∈ns,b n=false:=λn hn=>l.h.seen (q3 n hn).1
              refine pG (t:=st.t) (l.h.cC _ hs) ?_ h;rw[<-qI _ _ hs,l.h.merge]
            . cases h
          . cases h
        . rename_i esh
          try simp only[esh]
          split at h
          . rename_i z e3;simp only[l.h.datum e3];split at h
            . rename_i xs e4;obtain⟨p1,p2⟩:=tx e4;rw[l.parts p1];simp only[l.h.dN e4];obtain⟨h1,h⟩:=aT h;rw[h1];refine fA (t:=st.t) (l.h.aZ _) ?_ h;rw[<-iO _ _ λk hk=>l.h.seen (p2 k hk),l.h.merge]
            . cases h
          . cases h
      . cases h
    . cases h
  . cases h
 case load t x=>
  split at h
  . rename_i e1 e2
    try simp only[e1,l.one e2]
    rw[jb]at h⊢;obtain⟨c,hc,rfl,rfl⟩:=de h;rw[Jn l.h hc,bz];rfl
  . cases h
 case store t x y=>
  split at h
  . rename_i i a e1 e2
    try simp only[e1,l.one e2]
    rw[qu]at h⊢;obtain⟨r,hr,h⟩:=bR.1 h;obtain⟨rfl,rfl⟩:=bw h
    have hc:(ay st y).fE=false:=by
     cases e:(ay st y).cells with
     |none=>unfold store at hr;rw[e]at hr;cases hr
     |some cs=>exact sw e
    rw[l.ay rfl hc,F4 l.h hr];rfl
  . cases h
 case nilCheck x=>
  split at h
  . rename_i e;obtain⟨rfl,rfl⟩:=bw h;simp only[l.ay e rfl,bz]
  . rename_i e;obtain⟨rfl,rfl⟩:=bw h;simp only[l.ay e rfl,bz]
  . rename_i e;obtain⟨rfl,rfl⟩:=bw h;simp only[l.ay e rfl,bz]
  . rename_i e;obtain⟨rfl,rfl⟩:=bw h;simp only[l.ay e rfl,bz]
  . cases h
 case binOp op t x y t'=>
  rw[uU]at h⊢;obtain⟨c,hc,rfl,rfl⟩:=de h
  have hx:(ay st x).fE=false:=by
   cases e:ay st x with
   |bad=>rw[e]at hc;simp only[bin]at hc;cases hc
   |_=>rfl
  have hy:(ay st y).fE=false:=by
   cases e:ay st y with
   |bad=>rw[e]at hc;unfold bin at hc;split at hc<;>first|(rename_i q;cases q;done)|(rename_i q1 q2;cases q2;done)|cases hc
   |_=>rfl
  rw[l.ay rfl hx,l.ay rfl hy,hc,bz];rfl
 case unOp op t x=>
  rw[yM]at h⊢;obtain⟨c,hc,rfl,rfl⟩:=de h
  have hx:(ay st x).fE=false:=by
   cases e:ay st x with
   |bad=>rw[e]at hc;cases op<;>cases hc
   |_=>rfl
  rw[l.ay rfl hx,hc,bz];rfl
 case convert s d x=>
  split at h
  . rename_i e1 e2 e3
    try simp only[e1,e2,l.ay e3 rfl]
    rw[sy]at h⊢;obtain⟨c,hc,rfl,rfl⟩:=de h;rw[HW l.h hc,bz];rfl
  . cases h
 case fieldAddr s x f=>
  split at h
  . rename_i e1 e2
    try simp only[e1,l.one e2]
    split at h
    . rename_i ek
      try simp only[ek]
      split at h
      . rename_i e3;obtain⟨rfl,rfl⟩:=bw h;simp only[bz]
      . rename_i e3;obtain⟨rfl,rfl⟩:=bw h;simp only[bz]
      . cases h
    . cases h
  . cases h
 case field s x f=>
  split at h
  . rename_i e1 e2
    try simp only[e1,l.ay e2 rfl]
    split at h
    . rename_i ek
      try simp only[ek]
      split at h
      . rename_i e3
        try simp only[e3]
        split at h
        . rename_i e4
          try simp only[e4]
          split at h
          . rename_i e5
            try simp only[e5]
            split at h
            . rename_i e6;obtain⟨rfl,rfl⟩:=bw h;simp only[bz]
            . cases h
          . cases h
        . cases h
      . cases h
    . cases h
  . cases h
 case indexAddr t x i=>
  split at h
  . rename_i e1 e2 e3
    try simp only[e1,l.one e2,l.ay e3 rfl]
    split at h
    . rename_i eb;simp only[Km l.h eb];split at h
      . rw[fO]at h⊢;obtain⟨c,hc,rfl,rfl⟩:=de h;rw[hc,bz];rfl
      . cases h
    . rename_i eb;rw[iC]at h⊢;obtain⟨c,hc,rfl,rfl⟩:=de h;simp only[yZ l.h eb hc];rw[iC,FD l.h hc,bz];rfl
  . cases h
 case index t x i=>
  split at h
  . rename_i e1 e2 e3
    try simp only[e1,l.ay e2 rfl,l.ay e3 rfl]
    split at h
    . rename_i ek
      try simp only[ek]
      obtain⟨c,hc,rfl,rfl⟩:=de h;rw[hc,bz];rfl
    . cases h
  . rename_i e1 e2 e3
    try simp only[e1,l.ay e2 rfl,l.ay e3 rfl]
    split at h
    . rename_i ek
      try simp only[ek]
      rw[fO]at h⊢;obtain⟨q,hq,h⟩:=bR.1 h;rw[hq,aa];split at h
      . rename_i ep;obtain⟨rfl,rfl⟩:=bw h
        try simp only[ek]at ep
        try simp only[ep,bz]
      . cases h
    . cases h
  . cases h
 case makeMap t x=>exact absurd ⟨t,x,ho⟩ hmm
 case lookup t x y cm=>
  split at h
  . rename_i e1
    try simp only[e1]
    split at h
    . rename_i ek
      try simp only[ek]
      split at h
      . rename_i e2 e3
        try simp only[e2,e3]
        split at h
        . rename_i e4
          try simp only[e4]
          cases htk:cfg.takes.any (Nat.beq (Oper.name o))&& !cm with
          |true=>rw[htk]at h;exact J4 l h
          |false=>
           rw[htk]at h;simp only[ac]at h⊢
           cases hml:cfg.melts.any (Nat.beq (Oper.name o))with
           |true=>
            rw[hml]at h;simp only[ab]at h⊢;rw[uk]at h⊢;obtain⟨s,hs,h⟩:=bR.1 h;obtain⟨s',hs',l2,es',o1,o2⟩:=Jt l hs;rw[hs',aa];rw[fR]at h⊢;obtain⟨c,hc,h⟩:=bR.1 h;obtain⟨rfl,rfl⟩:=bw h;rw[<-o1 x,<-o1 y]at hc;rw[<-o2 x,<-o2 y,ui l2 hc,es'];rfl
           |false=>rw[hml]at h;simp only[ac]at h⊢;rw[fR]at h⊢;obtain⟨c,hc,h⟩:=bR.1 h;obtain⟨rfl,rfl⟩:=bw h;rw[ui l hc,bz];rfl
        . cases h
      . cases h
    . cases h
  . cases h
 case mapEntry t x y=>
  split at h
  . rename_i e1
    try simp only[e1]
    split at h
    . rename_i ek
      try simp only[ek]
      split at h
      . rename_i e2 e3
        try simp only[e2,e3]
        split at h
        . rename_i e4
          try simp only[e4]
          exact FB l h
        . cases h
      . cases h
    . cases h
  . cases h
 case entryStore t x y z=>
  split at h
  . rename_i e1
    try simp only[e1]
    split at h
    . rename_i ek
      try simp only[ek]
      split at h
      . rename_i e2
        try simp only[e2]
        rw[jR]at h⊢;obtain⟨r,hr,h⟩:=bR.1 h;obtain⟨rfl,rfl⟩:=bw h;rw[wU l hr];rfl
      . cases h
    . cases h
  . cases h
 case mapUpdate t x y z=>
  split at h
  . rename_i e1
    try simp only[e1]
    split at h
    . rename_i ek
      try simp only[ek]
      split at h
      . rename_i e2 e3
        try simp only[e2,e3]
        cases hm:sL st (R1.ay st x)with
        |true=>
         rw[hm]at h;rw[ye l hm (.inl rfl)];simp only[ab]at h⊢;rw[mT]at h⊢;obtain⟨r,hr,h⟩:=bR.1 h;obtain⟨rfl,rfl⟩:=bw h;rw[EV l hr];rfl
        |false=>rw[hm]at h;simp only[ac]at h;rw[jI]at h;obtain⟨r,hr,h⟩:=bR.1 h;obtain⟨rfl,rfl⟩:=bw h;rw[ye l hm (.inr (Gb hr))];simp only[ac];rw[jI,Fl l hr];rfl
      . cases h
    . cases h
  . cases h
 case extract x i=>
  split at h
  . rename_i e1;simp only[l.ay e1 rfl];split at h
    . rename_i e2;obtain⟨rfl,rfl⟩:=bw h;simp only[bz]
    . cases h
  . cases h
 case makeFunc f fs cs=>exact absurd ⟨f,fs,cs,ho⟩ hf
 case makeSlice t x c=>
  split at h
  . rename_i e1 e2 e3
    try simp only[e1,l.ay e2 rfl,l.ay e3 rfl]
    split at h
    . rename_i ek
      try simp only[ek]
      split at h
      . rename_i e4
        try simp only[e4]
        split at h
        . rename_i sh esh
          try simp only[esh]
          split at h
          . rename_i z e5;simp only[(l.h.cr e5).1];split at h
            . rename_i e6
              try simp only[e6]
              obtain⟨h1,h⟩:=aT h;rw[h1];exact pG (t:=st.t) l.h l.h.merge.symm h
            . cases h
          . cases h
        . rename_i esh
          try simp only[esh]
          split at h
          . rename_i e5;simp only[l.h.datum e5];obtain⟨h1,h⟩:=aT h;rw[h1];exact fA (t:=st.t) l.h l.h.merge.symm h
          . cases h
      . cases h
    . cases h
  . cases h
 case slice t x lo hi mx=>exact absurd ⟨t,x,lo,hi,mx,ho⟩ hs
 case call c=>
  have hm:c.args.toList.map (ay st')=c.args.toList.map (ay st):=l.Jw rfl λv hv=>by obtain⟨x,hx,rfl⟩:=eZ.1 hv;unfold qT at ha;rw[ho]at ha;simp only[dj,ji]at ha;exact ha x hx
  rw[hm];split at h
  . split at h
    . rename_i e1 e2
      try simp only[e1,e2]
      split at h
      . rename_i e3
        try simp only[e3]
        split at h
        . rename_i e4;obtain⟨rfl,rfl⟩:=bw h;simp only[FI l.h e4,bz]
        . cases h
      . cases h
    . cases h
  . split at h
    . rename_i e1 e2
      try simp only[e1,e2]
      split at h
      . rename_i e3
        try simp only[e3]
        split at h
        . rename_i e4;obtain⟨rfl,rfl⟩:=bw h;simp only[bz]
        . cases h
      . cases h
    . cases h
  . split at h
    . rename_i e1 e2
      try simp only[e1,e2]
      split at h
      . rename_i e3 e4
        try simp only[e3,e4]
        split at h
        . rename_i ek
          try simp only[ek]
          split at h
          . rename_i e5
            try simp only[e5]
            split at h
            . rename_i e6;(try simp only[e6]);exact xu l.h h
            . rename_i e6;(try simp only[e6]);exact Cy l.h h
          . cases h
        . cases h
      . rename_i e3 e4
        try simp only[e3,e4]
        exact wE l.h h
      . cases h
    . cases h
  . split at h
    . rename_i x r e1
      try simp only[e1]
      split at h
      . rename_i e2;obtain⟨rfl,rfl⟩:=bw h
        try simp only[bz]
      . cases h
    . cases h
  . split at h
    . rename_i x r e1
      try simp only[e1]
      split at h
      . rename_i e2;obtain⟨rfl,rfl⟩:=bw h
        try simp only[bz]
      . cases h
    . cases h
  . split at h
    . rename_i e1 e2
      try simp only[e1,e2]
      split at h
      . rename_i e3;(try simp only[e3]);exact Fx l.h h
      . cases h
    . cases h
  . cases h
  . cases h
  . split at h
    . rename_i g e1;simp only[l.one e1];split at h
      . rename_i n caps e2
        try simp only[e2]
        rcases hes with hes|⟨e,hes⟩
        . rw[hes]at h;cases h
        . rw[hes]at h⊢;simp only[gf]at h⊢;split at h
          . rename_i hid;exact BG l.h h
          . cases h
      . cases h
    . cases h
 all_goals cases h
theorem J3 {i:TI}{esz:Nat}{x:C}{lo hi:Option Int}(h:jH st i esz x lo hi (λc=>some (V.v (.c c),st))=some (v,s1)):s1=st:=by rw[n8]at h;obtain⟨c,hc,rfl,rfl⟩:=de h;rfl
theorem CF {k:Nat}{dst f:Nat}{args:List V}{es:List af}(h:gf k st dst f args (λv s=>some (v,s)) es=some (v,s1)):s1.t=st.t/\∀n,n∉gH st dst f args es->s1.h n=st.h n:=by obtain⟨e,_,h1,h2,h3⟩:=kV h;rw[h3];exact BI h1 h2
theorem IP (hp:cfg.plain){o:Oper}(h:aS cfg st o (λv s=>some (v,s))=some (v,s1)):s1.t=st.t/\∀n,n∉bW cfg st o->s1.h n=st.h n:=by
 have same:s1=st->s1.t=st.t/\∀n,n∉bW cfg st o->s1.h n=st.h n:=λe=>by subst e;exact⟨rfl,λ_ _=>rfl⟩
 by_cases hf:∃f fs cs,o.op=.makeFunc f fs cs
 . obtain⟨f,fs,cs,ho⟩:=hf;cases f<;>simp only[aS,ho]at h
   case func f=>
    split at h
    . exact same (bw h).2.symm
    . cases h
   all_goals cases h
 by_cases hs:∃t x lo hi mx,o.op=.slice t x lo hi mx
 . obtain⟨t,x,lo,hi,mx,ho⟩:=hs
   cases mx with
   |some m=>simp only[aS,ho]at h;cases h
   |none=>
    simp only[aS,ho]at h;split at h
    . rename_i e1 e2 e3 e4
      cases htl:cfg.tails.any (Nat.beq (Oper.name o))with
      |true=>
       rw[htl]at h;simp only[ab]at h;exact same (J3 h)
      |false=>
       rw[htl]at h;simp only[ac]at h;obtain⟨h1,h2⟩:=FY h;refine⟨h1,λn hn=>h2 n λhm=>hn ?_⟩;simp only[bW,ho,htl,e2];split at hm
       . rename_i m ew;rw[Pu ew];exact hm
       . cases hm
    . cases h
 by_cases hmm:∃t x,o.op=.makeMap t x
 . obtain⟨t,x,ho⟩:=hmm
   cases x with
   |some m=>simp only[aS,ho]at h;cases h
   |none=>
    simp only[aS,ho]at h;split at h
    . split at h
      . split at h
        . split at h
          . obtain⟨h1,h2⟩:=fZ (t:=st.t) (g:=st.h) h;exact⟨h1,λn hn=>h2 n λe=>hn (by simp[bW,ho,e])⟩
          . cases h
        . cases h
      . cases h
    . cases h
 cases ho:o.op<;>(try simp only[aS,ho,hp.1,hp.2,List.any_nil,ac]at h)
 case move x=>exact same (bw h).2.symm
 case assign x=>exact same (bw h).2.symm
 case pick c x y=>
  split at h
  . rename_i t e
    cases t with
    |true=>exact same (bw h).2.symm
    |false=>exact same (bw h).2.symm
  . cases h
 case alloc t=>
  have key:(∀k,k≠Oper.name o->s1.h k=st.h k)->∀n,n∉bW cfg st o->s1.h n=st.h n:=λhk n hn=>hk n λe=>hn (by simp[bW,ho,e])
  split at h
  . split at h
    . split at h
      . split at h
        . obtain⟨_,h⟩:=aT h;obtain⟨h1,h2⟩:=fB (t:=st.t) (g:=st.h) h;exact⟨h1,key h2⟩
        . cases h
      . cases h
    . obtain⟨_,h⟩:=aT h;obtain⟨h1,h2⟩:=fZ (t:=st.t) (g:=st.h) h;exact⟨h1,key h2⟩
  . cases h
 case box t x=>
  split at h
  . rename_i i cs e1 e2;split at h
    . rename_i n e ek;split at h
      . split at h
        . obtain⟨_,h⟩:=aT h;obtain⟨h1,h2⟩:=fB (t:=st.t) h;refine⟨h1,λn hn=> ?_⟩;simp only[bW,ho,e1,e2,ek,aG,not_or]at hn;rw[h2 n hn.1];exact iB _ _ _ hn.2
        . cases h
      . cases h
    . obtain⟨h1,h2⟩:=fZ (t:=st.t) (g:=st.h) h;refine⟨h1,λn hn=>h2 n λe=>hn (by simp[bW,ho,e])⟩
  . cases h
 case build t ps=>
  split at h
  . split at h
    . split at h
      . exact same (bw h).2.symm
      . cases h
    . cases h
  . cases h
 case buildSlice t n ps=>
  split at h
  . split at h
    . split at h
      . split at h
        . split at h
          . rename_i e4;have l0:LeH (λ_=>false) st.h st.h:=⟨λ_ _=>rfl,λ_ h=>by cases h⟩;obtain⟨_,_,q3⟩:=l0.dG e4;split at h
            . obtain⟨_,h⟩:=aT h;obtain⟨h1,h2⟩:=pH (t:=st.t) h;refine⟨h1,λn hn=> ?_⟩;simp only[bW,ho,aG,not_or]at hn;rw[h2 n hn.1];exact qH _ λhm=>hn.2 (q3 n hm).2
            . cases h
          . cases h
        . split at h
          . split at h
            . obtain⟨_,h⟩:=aT h;obtain⟨h1,h2⟩:=fB (t:=st.t) h;refine⟨h1,λn hn=> ?_⟩;simp only[bW,ho,aG,not_or]at hn;rw[h2 n hn.1];exact iB _ _ _ hn.2
            . cases h
          . cases h
      . cases h
    . cases h
  . cases h
 case load t x=>
  split at h
  . rw[jb]at h;obtain⟨c,hc,rfl,rfl⟩:=de h;exact same rfl
  . cases h
 case store t x y=>
  split at h
  . rename_i i a e1 e2;rw[qu]at h;obtain⟨r,hr,h⟩:=bR.1 h;obtain⟨rfl,rfl⟩:=bw h;unfold store at hr;split at hr
    . cases hr
    . rename_i new e0;obtain⟨_,hr⟩:=aT hr;split at hr
      . rename_i n j sz off;split at hr
        . split at hr
          . injection hr with hr;subst hr;refine⟨rfl,λk hk=>az _ _ λe=>hk (by simp[bW,ho,e2,e0,e])⟩
          . cases hr
        . rename_i e u xs e3;obtain⟨_,h1,h2⟩:=tA hr;refine⟨h1,λk hk=> ?_⟩;simp only[bW,ho,e2,e0,e3,aG,not_or]at hk;rw[h2 k hk.1];exact iB _ _ _ hk.2
        . split at hr
          . obtain⟨y,_,hr⟩:=bR.1 hr;split at hr
            . injection hr with hr;subst hr;refine⟨rfl,λk hk=>az _ _ λe=>hk (by simp[bW,ho,e2,e0,e])⟩
            . simp only[oY,ac]at hr;cases hr
          . cases hr
        . obtain⟨_,hr⟩:=aT hr;split at hr
          . injection hr with hr;subst hr;refine⟨rfl,λk hk=>az _ _ λe=>hk (by simp[bW,ho,e2,e0,e])⟩
          . cases hr
        . cases hr
      . cases hr
  . cases h
 case nilCheck x=>split at h<;>first|exact same (bw h).2.symm|cases h
 case binOp op t x y t'=>rw[uU]at h;obtain⟨c,hc,rfl,rfl⟩:=de h;exact same rfl
 case unOp op t x=>rw[yM]at h;obtain⟨c,hc,rfl,rfl⟩:=de h;exact same rfl
 case convert s d x=>
  split at h
  . rw[sy]at h;obtain⟨c,hc,rfl,rfl⟩:=de h;exact same rfl
  . cases h
 case fieldAddr s x f=>
  split at h
  . split at h
    . split at h
      . exact same (bw h).2.symm
      . exact same (bw h).2.symm
      . cases h
    . cases h
  . cases h
 case field s x f=>
  split at h
  . split at h
    . split at h
      . split at h
        . split at h
          . split at h
            . exact same (bw h).2.symm
            . cases h
          . cases h
        . cases h
      . cases h
    . cases h
  . cases h
 case indexAddr t x i=>
  split at h
  . split at h
    . split at h
      . rw[fO]at h;obtain⟨c,hc,rfl,rfl⟩:=de h;exact same rfl
      . cases h
    . rw[iC]at h;obtain⟨c,hc,rfl,rfl⟩:=de h;exact same rfl
  . cases h
 case index t x i=>
  split at h
  . split at h
    . obtain⟨c,hc,rfl,rfl⟩:=de h;exact same rfl
    . cases h
  . split at h
    . rw[fO]at h;obtain⟨q,hq,h⟩:=bR.1 h;split at h
      . exact same (bw h).2.symm
      . cases h
    . cases h
  . cases h
 case makeMap t x=>exact absurd ⟨t,x,ho⟩ hmm
 case lookup t x y cm=>
  split at h
  . split at h
    . split at h
      . split at h
        . cases htk:cfg.takes.any (Nat.beq (Oper.name o))&& !cm with
          |true=>
           rw[htk]at h;obtain⟨c,n,hx,h1,h2⟩:=J5 h;exact⟨h1,λk hk=>h2 k (λe=>hk (by simp[bW,ho,htk,hx,V.one,e])) λe=>hk (by simp[bW,ho,htk,hx,V.one,e])⟩
          |false=>
           rw[htk]at h;simp only[ac]at h
           cases hml:cfg.melts.any (Nat.beq (Oper.name o))with
           |true=>
            rw[hml]at h;simp only[ab]at h;obtain⟨c,n,t',ka,ku,ee,u,xs,xs',hx,en,hl,h⟩:=sP h;rw[fR]at h;obtain⟨c,hc,h⟩:=bR.1 h;obtain⟨rfl,rfl⟩:=bw h;exact⟨rfl,λk hk=>az _ _ λe=>hk (by simp[bW,ho,htk,hml,hx,V.one,e])⟩
           |false=>rw[hml]at h;simp only[ac]at h;rw[fR]at h;obtain⟨c,hc,h⟩:=bR.1 h;exact same (bw h).2.symm
        . cases h
      . cases h
    . cases h
  . cases h
 case mapEntry t x y=>
  split at h
  . split at h
    . split at h
      . split at h
        . obtain⟨c,n,hx,h1,h2⟩:=FC h;exact⟨h1,λk hk=>h2 k λe=>hk (by simp[bW,ho,hx,V.one,e])⟩
        . cases h
      . cases h
    . cases h
  . cases h
 case entryStore t x y z=>
  split at h
  . split at h
    . split at h
      . rw[jR]at h;obtain⟨r,hr,h⟩:=bR.1 h;obtain⟨rfl,rfl⟩:=bw h;obtain⟨c,n,hx,h1,h2⟩:=wV hr;exact⟨h1,λk hk=>h2 k λe=>hk (by simp[bW,ho,hx,V.one,e])⟩
      . cases h
    . cases h
  . cases h
 case mapUpdate t x y z=>
  split at h
  . split at h
    . split at h
      . cases hm:sL st (ay st x)with
        |true=>
         rw[hm]at h;simp only[ab]at h;rw[mT]at h;obtain⟨r,hr,h⟩:=bR.1 h;obtain⟨rfl,rfl⟩:=bw h;obtain⟨c,n,m,hx,hz,h1,h2⟩:=EW hr;rw[hx]at hm;exact⟨h1,λk hk=>h2 k (λe=>hk (by simp[bW,ho,hx,V.one,e])) λe=>hk (by simp[bW,ho,hx,hm,hz,V.one,e,rowsOf,bn,W1.cells])⟩
        |false=>rw[hm]at h;simp only[ac]at h;rw[jI]at h;obtain⟨r,hr,h⟩:=bR.1 h;obtain⟨rfl,rfl⟩:=bw h;obtain⟨c,n,hx,h1,h2⟩:=Fm hr;exact⟨h1,λk hk=>h2 k λe=>hk (by simp[bW,ho,hx,V.one,e])⟩
      . cases h
    . cases h
  . cases h
 case extract x i=>
  split at h
  . split at h
    . exact same (bw h).2.symm
    . cases h
  . cases h
 case makeFunc f fs cs=>exact absurd ⟨f,fs,cs,ho⟩ hf
 case makeSlice t x c=>
  split at h
  . split at h
    . split at h
      . split at h
        . split at h
          . split at h
            . obtain⟨_,h⟩:=aT h;obtain⟨h1,h2⟩:=pH (t:=st.t) (g:=st.h) h;exact⟨h1,λn hn=>h2 n λe=>hn (by simp[bW,ho,e])⟩
            . cases h
          . cases h
        . split at h
          . obtain⟨_,h⟩:=aT h;obtain⟨h1,h2⟩:=fB (t:=st.t) (g:=st.h) h;exact⟨h1,λn hn=>h2 n λe=>hn (by simp[bW,ho,e])⟩
          . cases h
      . cases h
    . cases h
  . cases h
 case slice t x lo hi mx=>exact absurd ⟨t,x,lo,hi,mx,ho⟩ hs
 case call c=>
  split at h
  . split at h
    . split at h
      . split at h
        . exact same (bw h).2.symm
        . cases h
      . cases h
    . cases h
  . split at h
    . split at h
      . split at h
        . exact same (bw h).2.symm
        . cases h
      . cases h
    . cases h
  . rename_i hc;split at h
    . rename_i s x t t' e1 e2;split at h
      . split at h
        . split at h
          . split at h
            . rename_i esh;obtain⟨h1,h2⟩:=xz h;refine⟨h1,λk hk=> ?_⟩;simp only[bW,ho,hc,e1,esh,rowsOf,W1.cells,eO,aG,aC,not_or]at hk;exact h2 k hk.1 hk.2.1 hk.2.2
            . rename_i esh;obtain⟨h1,h2⟩:=CA h;refine⟨h1,λk hk=> ?_⟩
              cases s with
              |row m=>
               simp only[bW,ho,hc,e1,esh,aG,nE,or_false,not_or]at hk;exact h2 k hk.2 λn hn=>by injection hn with hn;subst hn;exact hk.1
              |_=>simp only[bW,ho,hc,e1,esh,aG,nE,or_false]at hk;exact h2 k hk λn hn=>by cases hn
          . cases h
        . cases h
      . obtain⟨h0,h1,h2⟩:=wG h;subst h0;refine⟨h1,λk hk=>h2 k λq=>hk ?_⟩;simp only[bW,ho,hc,e1];split<;>simp[q]
      . cases h
    . cases h
  . split at h
    . split at h
      . exact same (bw h).2.symm
      . cases h
    . cases h
  . split at h
    . split at h
      . exact same (bw h).2.symm
      . cases h
    . cases h
  . rename_i hc;split at h
    . rename_i x t e1 e2;split at h
      . obtain⟨h1,h2⟩:=Fz h;refine⟨h1,λk hk=>h2 k λn j sz hx=> ?_⟩;subst hx;simp only[bW,ho,hc,e1,aG,nE,or_false]at hk;exact hk
      . cases h
    . cases h
  . cases h
  . cases h
  . rename_i f hc;split at h
    . rename_i g e1;split at h
      . rename_i n caps e2;obtain⟨h1,h2⟩:=CF h;refine⟨h1,λk hk=>h2 k ?_⟩;simpa only[bW,ho,hc,e1,e2]using hk
      . cases h
    . cases h
 all_goals cases h
theorem MW {o:Oper}(h:aS cfg st o (λv s=>some (v,s))=some (v,s1)):
    ∃l:List af,(∀e∈l,e∈cfg.fns)/\(l=[]\/∃e,l=[e])/\aS {cfg with fns:=l} st o (λv s=>some (v,s))=some (v,s1):=by
 by_cases hcall:∃c f,o.op=.call c/\c.callee=.value f
 . obtain⟨c,f,ho,hc⟩:=hcall;simp only[aS,ho,hc]at h;split at h
   . rename_i g e1;split at h
     . rename_i n caps e2;obtain⟨e,he,h1,h2,_⟩:=kV h;refine⟨[e],λx hx=>by rw[bG.1 hx];exact he,.inr ⟨e,rfl⟩,?_⟩;simp only[aS,ho,hc,e1,e2,gf,h1];exact h2
     . cases h
   . cases h
 . refine⟨[],λx hx=>by(cases hx),.inl rfl,?_⟩;rw[<-h]
   cases ho:o.op with
   |call c=>
    cases hc:c.callee with
    |value f=>exact absurd ⟨c,f,ho,hc⟩ hcall
    |builtin bb=>cases bb<;>first|(simp only[aS,ho,hc];done)|(simp only[aS,ho,hc];rfl)
    |invoke x n=>simp only[aS,ho,hc]
   |slice t x lo hi mx=>cases mx<;>simp only[aS,ho]<;>rfl
   |makeFunc f fs cs=>cases f<;>simp only[aS,ho]
   |makeMap t x=>cases x<;>simp only[aS,ho]<;>rfl
   |_=>first|(simp only[aS,ho];done)|(simp only[aS,ho];rfl)
end
variable {P : Program} {ρ : Type}
structure Reg (ops:List Oper)(bs:List (List Nat))(tch:List (Nat×List Nat)):Prop where
 j5:Good ops bs
 back:sj ops
 dist:fQ (ops.map (·.dst))=true
 small:∀(o:Oper),o∈ops->∀d,o.dst=some d->d<10000
 touch:zU bs tch ops=true
def Wr (ops:List Oper)(tch:List (Nat×List Nat))(i n:Nat):Prop:=∃o,ops[i]? =some o/\jc tch o i n=true
theorem xE {bs:List (List Nat)}{i:Nat}:∀{l:List Oper}{j0 n:Nat},kT bs i l j0 n=true↔∃j o,l[j]? =some o/\o.dst=some n/\loose bs i (j0+j)=true
 |[],j0,n=>by simp[kT]
 |o::l,j0,n=>by
  simp only[kT,eB,xE (l:=l)];constructor
  . rintro(h|⟨j,p,h1,h2,h3⟩)
    . cases e:o.dst with
      |none=>rw[e]at h;cases h
      |some d=>rw[e]at h;simp only[aH]at h;have:=aR h.1;subst this;exact⟨0,o,by simp,e,by simpa using h.2⟩
    . exact⟨j+1,p,by simpa using h1,h2,by rw[show j0+(j+1)=j0+1+j by omega];exact h3⟩
  . rintro⟨j,p,h1,h2,h3⟩
    cases j with
    |zero=>simp at h1;subst h1;refine .inl ?_;rw[h2];simp only[jj,bj];simpa using h3
    |succ j=>exact .inr ⟨j,p,by simpa using h1,h2,by rw[show j0+1+j=j0+(j+1) by omega];exact h3⟩
theorem nT {bs:List (List Nat)}{tch:List (Nat×List Nat)}{i:Nat}:∀{l:List Oper}{j0 n:Nat},gd bs tch i l j0 n=true↔∃j o,l[j]? =some o/\jc tch o (j0+j) n=true/\loose bs i (j0+j)=true
 |[],j0,n=>by simp[gd]
 |o::l,j0,n=>by
  simp only[gd,eB,nT (l:=l),aH];constructor
  . rintro(h|⟨j,p,h1,h2,h3⟩)
    . exact⟨0,o,by simp,by simpa using h.1,by simpa using h.2⟩
    . exact⟨j+1,p,by simpa using h1,by rw[show j0+(j+1)=j0+1+j by omega];exact⟨h2,h3⟩⟩
  . rintro⟨j,p,h1,h2,h3⟩
    cases j with
    |zero=>simp at h1;subst h1;exact .inl ⟨by simpa using h2,by simpa using h3⟩
    |succ j=>exact .inr ⟨j,p,by simpa using h1,by rw[show j0+1+j=j0+(j+1) by omega];exact⟨h2,h3⟩⟩
theorem kB {bs:List (List Nat)}{i j:Nat}:loose bs i j=true↔i≠j/\j∉cH bs i/\i∉cH bs j:=by
 unfold loose;simp only[aH,ji];constructor
 . rintro⟨⟨h1,h2⟩,h3⟩;refine⟨?_,?_,?_⟩
   . rintro rfl;rw[jj]at h1;cases h1
   . intro h;rw[any_beq.2 h]at h2;cases h2
   . intro h;rw[any_beq.2 h]at h3;cases h3
 . rintro⟨h1,h2,h3⟩;refine⟨⟨?_,?_⟩,?_⟩
   . cases e:Nat.beq i j with
     |true=>exact absurd (aR e) h1
     |false=>rfl
   . cases e:(cH bs i).any (Nat.beq j)with
     |true=>exact absurd (any_beq.1 e) h2
     |false=>rfl
   . cases e:(cH bs j).any (Nat.beq i)with
     |true=>exact absurd (any_beq.1 e) h3
     |false=>rfl
theorem Jo {bs:List (List Nat)}{i j:Nat}(h:loose bs i j=true):loose bs j i=true:=by obtain⟨h1,h2,h3⟩:=kB.1 h;exact kB.2 ⟨Ne.symm h1,h3,h2⟩
theorem sA {ops:List Oper}{j n:Nat}:eD ops j=some n↔∃o,ops[j]? =some o/\o.dst=some n:=by
 unfold eD
 cases e:ops[j]? with
 |none=>simp
 |some o=>simp
theorem D8 {tch:List (Nat×List Nat)}{i n:Nat}:declared tch i n=true↔∃ns,(i,ns)∈tch/\n∈ns:=by
 unfold declared;rw[oW];constructor
 . rintro⟨⟨j,ns⟩,h1,h2⟩;simp only[aH]at h2;have:=aR h2.1;subst this;exact⟨ns,h1,any_beq.1 h2.2⟩
 . rintro⟨ns,h1,h2⟩;exact⟨(i,ns),h1,by simp only[aH];exact⟨jj _,any_beq.2 h2⟩⟩
section
variable {ops : List Oper} {bs : List (List Nat)} {tch : List (Nat × List Nat)}
theorem pM (R:Reg ops bs tch){i n:Nat}(hd:declared tch i n=true):bH n=false/\∀j,loose bs i j=true->¬Wr ops tch j n:=by
 obtain⟨ns,h1,h2⟩:=D8.1 hd;have h:=R.touch;unfold zU at h;rw[dj]at h;have h:=h _ h1;simp only[dj]at h;have h:=h n h2;simp only[aH,ji,dj,List.mem_range,eB]at h;refine⟨h.1,λj hl⟨o,ho,hw⟩=> ?_⟩;rcases h.2 j (gq.1 ho).1 with q|q
 . rw[hl]at q;cases q
 . rw[ho]at q;simp only[hw]at q;cases q
theorem Kf (R:Reg ops bs tch){i j n:Nat}(hl:loose bs i j=true)(hi:Wr ops tch i n)(hj:Wr ops tch j n):False:=by
 obtain⟨o,ho,h1⟩:=hi;obtain⟨p,hp,h2⟩:=hj;unfold jc at h1 h2;simp only[eB,aH]at h1 h2;rcases h1 with⟨d1,h1⟩|h1
 . rcases h2 with⟨d2,h2⟩|h2
   . obtain⟨d,hd⟩:=pQ.1 d1;obtain⟨e,he⟩:=pQ.1 d2;exact(kB.1 hl).1 (OQ R.dist ho hp hd he (R.small o (aX ho) d hd) (R.small p (aX hp) e he) h1 h2)
   . exact(pM R h2).2 i (Jo hl) ⟨o,ho,by unfold jc;simp[d1,h1]⟩
 . exact(pM R h1).2 j hl ⟨p,hp,by unfold jc;simp only[eB,aH];exact h2⟩
theorem TQ (R:Reg ops bs tch){i n:Nat}(h:Wr ops tch i n):bH n=false:=by
 obtain⟨o,ho,h⟩:=h;unfold jc at h;simp only[eB,aH]at h;rcases h with⟨d1,h⟩|h
 . obtain⟨d,hd⟩:=pQ.1 d1;exact ia (LD hd (R.small o (aX ho) d hd) h)
 . exact(pM R h).1
variable (ops tch) in
open Classical in
noncomputable def hA (s:Nat->B)(ran:Nat->Bool)(hv:Nat->Nat->B)(X:Nat->Prop)(n:Nat):Nat->B
 |0=>s n
 |j+1=>if X j/\ran j=true/\Wr ops tch j n then hv j n else hA s ran hv X n j
variable (ops) in
open Classical in
noncomputable def tX (s:Nat->V)(v:Nat->V)(X:Nat->Prop)(n:Nat):V:=if h:∃j,X j/\eD ops j=some n then v h.choose else s n
variable {s : St} {v v' : Nat → V} {hv hv' : Nat → Nat → B} {ran ran' : Nat → Bool}
open Classical in
theorem Sq {s0:Nat->B}{X:Nat->Prop}{n j:Nat}:hA ops tch s0 ran hv X n (j+1)=if X j/\ran j=true/\Wr ops tch j n then hv j n else hA ops tch s0 ran hv X n j:=rfl
theorem lz (R:Reg ops bs tch){X:Nat->Prop}{j n:Nat}(hj:X j)(hd:eD ops j=some n):tX ops s.t v X n=v j:=by have h:∃j,X j/\eD ops j=some n:=⟨j,hj,hd⟩;unfold tX;rw[gE h,Hd R.dist h.choose_spec.2 hd]
theorem jG {X:Nat->Prop}{n:Nat}(h:¬∃j,X j/\eD ops j=some n):tX ops s.t v X n=s.t n:=by unfold tX;rw[dif_neg h]
theorem mz {X Y:Nat->Prop}{n:Nat}:∀{m:Nat},(∀j,j<m->((X j/\ran j=true/\Wr ops tch j n)↔(Y j/\ran' j=true/\Wr ops tch j n))/\(Y j->Wr ops tch j n->hv j n=hv' j n))->hA ops tch s.h ran hv X n m=hA ops tch s.h ran' hv' Y n m
 |0,_=>rfl
 |m+1,h=>by
  have ih:=mz (m:=m) λj hj=>h j (by omega)
  obtain⟨h1,h2⟩:=h m (by omega);unfold hA;by_cases q:X m/\ran m=true/\Wr ops tch m n
  . rw[ah q,ah (h1.1 q),h2 (h1.1 q).1 q.2.2]
  . rw[ae q,ae λz=>q (h1.2 z),ih]
theorem vj {X:Nat->Prop}{n i:Nat}:∀{m:Nat},i≤m->(∀j,i≤j->j<m->¬(X j/\ran j=true/\Wr ops tch j n))->hA ops tch s.h ran hv X n m=hA ops tch s.h ran hv X n i
 |0,hi,_=>by have:i=0:=by omega
             subst this;rfl
 |m+1,hi,h=>by
  by_cases e:i=m+1
  . subst e;rfl
  . rw[<-vj (m:=m) (i:=i) (by omega) λj h1 h2=>h j h1 (by omega)];unfold hA;rw[ae (h m (by omega) (by omega))];cases m<;>rfl
theorem So {X:Nat->Prop}{n i m:Nat}(hi:i<m)(h:X i/\ran i=true/\Wr ops tch i n)(hno:∀j,i<j->j<m->¬(X j/\ran j=true/\Wr ops tch j n)):hA ops tch s.h ran hv X n m=hv i n:=by rw[vj (i:=i+1) (by omega) λj h1 h2=>hno j (by omega) h2];unfold hA;rw[ah h]
variable (ops tch s) in
noncomputable def stX (v:Nat->V)(ran:Nat->Bool)(hv:Nat->Nat->B)(X:Nat->Prop)(m:Nat):St:=⟨tX ops s.t v X,λn=>hA ops tch s.h ran hv X n m⟩
variable (ops bs tch s) in
noncomputable def Rst (v:Nat->V)(ran:Nat->Bool)(hv:Nat->Nat->B)(i:Nat):St:=qo bs tch ops i (stX ops tch s v ran hv (λj=>j<i) i)
def TS (bs:List (List Nat))(ops:List Oper)(v:Nat->V)(i:Nat)(o:Oper):Prop:=o.guard=none\/∃g want dg,o.guard=some (g,want)/\eD ops g=some dg/\g∈cH bs i/\v g=.v (.c (.bool want))
def Pw (bs:List (List Nat))(ops:List Oper)(v:Nat->V)(i:Nat)(o:Oper):Prop:=∃g want dg,o.guard=some (g,want)/\eD ops g=some dg/\g∈cH bs i/\(v g=.und\/∃b,v g=.v (.c (.bool b))/\b≠want)
structure qw (cfg:Cfg)(ops:List Oper)(bs:List (List Nat))(tch:List (Nat×List Nat))(s:St)(v:Nat->V)(ran:Nat->Bool)(hv:Nat->Nat->B)(i:Nat)(o:Oper):Prop where
 op:ops[i]? =some o
 lt:∀d,o.dst=some d->d<cfg.n
 how:(ran i=true/\TS bs ops v i o/\∃(l:List af)(r:St),(∀e∈l,e∈cfg.fns)/\(l=[]\/∃e,l=[e])/\aS {cfg with fns:=l} (Rst ops bs tch s v ran hv i) o (λv s=>some (v,s))=some (v i,r)/\
    (v i).fE=false/\qT (Rst ops bs tch s v ran hv i) o=true/\(∀n,¬Wr ops tch i n->r.h n=(Rst ops bs tch s v ran hv i).h n)/\∀n,Wr ops tch i n->hv i n=r.h n)\/
  (ran i=false/\Pw bs ops v i o/\v i=.und)
theorem Pm (R:Reg ops bs tch){X:Nat->Prop}(h:∀j,X j->v j=v' j):tX ops s.t v X=tX ops s.t v' X:=by
 funext n
 by_cases e:∃j,X j/\eD ops j=some n
 . obtain⟨j,hj,hd⟩:=e;rw[lz R hj hd,lz R hj hd,h j hj]
 . rw[jG e,jG e]
theorem uL (R:Reg ops bs tch){i:Nat}(h:∀j,j<i->v j=v' j/\ran j=ran' j/\hv j=hv' j):stX ops tch s v ran hv (λj=>j<i) i=stX ops tch s v' ran' hv' (λj=>j<i) i:=by
 unfold stX;rw[Pm R λj hj=>(h j hj).1]
 congr 1
 funext n
 exact mz λj hj=>⟨by rw[(h j hj).2.1],λ_ _=>by rw[(h j hj).2.2]⟩
theorem qw.congr {cfg:Cfg}(R:Reg ops bs tch){i:Nat}{o:Oper}(h:∀j,j≤i->v j=v' j/\ran j=ran' j/\hv j=hv' j)(f:qw cfg ops bs tch s v ran hv i o):qw cfg ops bs tch s v' ran' hv' i o:=by
 have e1:Rst ops bs tch s v ran hv i=Rst ops bs tch s v' ran' hv' i:=by unfold Rst;rw[uL R λj hj=>h j (by omega)]
 obtain⟨h1,h2,h3⟩:=h i (aM _);refine⟨f.op,f.lt,?_⟩;rcases f.how with⟨a1,a2,l,r,a3,a4,a5,a6,a7,a8,a9⟩|⟨a1,a2,a3⟩
 . refine .inl ⟨by rw[<-h2];exact a1,?_,l,r,a3,a4,by rw[<-e1,<-h1];exact a5,by rw[<-h1];exact a6,by rw[<-e1];exact a7,by rw[<-e1];exact a8,by rw[<-h3];exact a9⟩;rcases a2 with a2|⟨g,want,dg,b1,b2,b3,b4⟩
   . exact .inl a2
   . exact .inr ⟨g,want,dg,b1,b2,b3,by rw[<-(h g (o7 (kR R.j5 R.back _ _ b3))).1];exact b4⟩
 . refine .inr ⟨by rw[<-h2];exact a1,?_,by rw[<-h1];exact a3⟩;obtain⟨g,want,dg,b1,b2,b3,b4⟩:=a2;exact⟨g,want,dg,b1,b2,b3,by rw[<-(h g (o7 (kR R.j5 R.back _ _ b3))).1];exact b4⟩
theorem We (R:Reg ops bs tch){X:Nat->Prop}{i:Nat}(hi:i<ops.length)(hni:¬X i)(hb:∀l∈cH bs i,X l)(hc:∀j,X j->i∉cH bs j):
    Le (λn=>gd bs tch i ops 0 n) (Rst ops bs tch s v ran hv i) (stX ops tch s v ran hv X ops.length):=by
 refine⟨λn=> ?_,⟨λn hn=> ?_,λn hn=> ?_⟩,λn hg=> ?_⟩
 . show(bif kT bs i ops 0 n then V.bad else tX ops s.t v (λj=>j<i) n)=.bad\/tX ops s.t v X n=(bif kT bs i ops 0 n then V.bad else tX ops s.t v (λj=>j<i) n)
   cases e:kT bs i ops 0 n with
   |true=>exact .inl rfl
   |false=>
    refine .inr ?_;simp only[ac]
    have seen:∀j,eD ops j=some n->j≠i->j∈cH bs i\/i∈cH bs j:=by
     intro j hd hne;refine Classical.byContradiction λhno=> ?_
     obtain⟨o,ho,hdo⟩:=sA.1 hd;have:kT bs i ops 0 n=true:=xE.2 ⟨j,o,ho,hdo,by rw[dc];exact kB.2 ⟨Ne.symm hne,λh=>hno (.inl h),λh=>hno (.inr h)⟩⟩;rw[e]at this;cases this
    by_cases q:∃j,j<i/\eD ops j=some n
    . obtain⟨j,hj,hd⟩:=q;rw[lz R (X:=λj=>j<i) hj hd];rcases seen j hd (by omega)with h|h
      . exact lz R (hb j h) hd
      . have:=kR R.j5 R.back _ _ h;omega
    . rw[jG q,jG];rintro⟨j,hj,hd⟩;have hne:j≠i:=λe=>hni (e▸hj)
      rcases seen j hd hne with h|h
      . exact q ⟨j,kR R.j5 R.back _ _ h,hd⟩
      . exact hc j hj h
 . show hA ops tch s.h ran hv X n ops.length=(bif gd bs tch i ops 0 n then B.gone else hA ops tch s.h ran hv (λj=>j<i) n i);rw[hn];simp only[ac]
   have seen:∀j,Wr ops tch j n->j≠i->j∈cH bs i\/i∈cH bs j:=by
    rintro j ⟨o,ho,hw⟩ hne;refine Classical.byContradiction λhno=> ?_
    have:gd bs tch i ops 0 n=true:=nT.2 ⟨j,o,ho,by rw[dc];exact⟨hw,kB.2 ⟨Ne.symm hne,λh=>hno (.inl h),λh=>hno (.inr h)⟩⟩⟩;rw[hn]at this;cases this
   rw[<-vj (X:=λj=>j<i) (m:=ops.length) (i:=i) (o7 hi) λj h1 _ h=>by omega];refine mz λj hj=>⟨⟨λ⟨h1,h2,h3⟩=>⟨?_,h2,h3⟩,λ⟨h1,h2,h3⟩=>⟨?_,h2,h3⟩⟩,λ_ _=>rfl⟩
   . rcases seen j h3 (λe=>hni (e▸h1))with h|h
     . exact kR R.j5 R.back _ _ h
     . exact absurd h (hc j h1)
   . rcases seen j h3 (by omega)with h|h
     . exact hb j h
     . have:=kR R.j5 R.back _ _ h;omega
 . show(bif gd bs tch i ops 0 n then B.gone else _)=_;rw[hn];rfl
 . show gd bs tch i ops 0 n=false
   cases e:gd bs tch i ops 0 n with
   |false=>rfl
   |true=>obtain⟨j,o,ho,hw,_⟩:=nT.1 e;rw[dc]at hw;rw[TQ R ⟨o,ho,hw⟩]at hg;cases hg
theorem TJ {cfg:Cfg}(hp:cfg.plain)(R:Reg ops bs tch){X:Nat->Prop}{i:Nat}{o:Oper}(ho:ops[i]? =some o)(hni:¬X i)(hb:∀l∈cH bs i,X l)(hc:∀j,X j->i∉cH bs j){l:List af}{r:St}(hl:l=[]\/∃e,l=[e])(hr:ran i=true)
    (h:aS {cfg with fns:=l} (Rst ops bs tch s v ran hv i) o (λv s=>some (v,s))=some (v i,r)) (hbad:(v i).fE=false) (harg:qT (Rst ops bs tch s v ran hv i) o=true)
    (h1:∀n,¬Wr ops tch i n->r.h n=(Rst ops bs tch s v ran hv i).h n) (h2:∀n,Wr ops tch i n->hv i n=r.h n):
    aS {cfg with fns:=l} (stX ops tch s v ran hv X ops.length) o (λv s=>some (v,s))=some (v i,⟨tX ops s.t v X,λn=>hA ops tch s.h ran hv (λj=>X j\/j=i) n ops.length⟩):=by
 have hi:i<ops.length:=(gq.1 ho).1;have le:=We (s:=s) (v:=v) (hv:=hv) (ran:=ran) R hi hni hb hc;rw[IN (cfg:={cfg with fns:=l}) ⟨hp.1,hp.2⟩ le hl harg h hbad];refine congrArg some (Prod.ext rfl ?_);simp only[St.mk.injEq];refine⟨rfl,?_⟩
 funext n
 show(bif gd bs tch i ops 0 n then(stX ops tch s v ran hv X ops.length).h n else r.h n)=_;by_cases hw:Wr ops tch i n
 . have hnb:gd bs tch i ops 0 n=false:=by
    cases e:gd bs tch i ops 0 n with
    |false=>rfl
    |true=>obtain⟨j,p,hp,hpw,hlo⟩:=nT.1 e;rw[dc]at hpw hlo;exact(Kf R hlo hw ⟨p,hp,hpw⟩).elim
   rw[hnb];simp only[ac];rw[So (i:=i) hi ⟨.inr rfl,hr,hw⟩,<-h2 n hw];rintro j hj hjm ⟨hX,_,hjw⟩;rcases hX with hX|rfl
   . refine hc j hX (Classical.byContradiction λhno=> ?_);exact Kf R (kB.2 ⟨by omega,λh=>by have:=kR R.j5 R.back _ _ h;omega,hno⟩) hw hjw
   . omega
 . have same:hA ops tch s.h ran hv (λj=>X j\/j=i) n ops.length=hA ops tch s.h ran hv X n ops.length:=by
    refine mz λj hj=>⟨⟨λ⟨a,b,c⟩=>⟨?_,b,c⟩,λ⟨a,b,c⟩=>⟨.inl a,b,c⟩⟩,λ_ _=>rfl⟩
    rcases a with a|rfl
    . exact a
    . exact absurd c hw
   rw[same]
   cases e:gd bs tch i ops 0 n with
   |true=>rfl
   |false=>simp only[ac];rw[h1 n hw];exact(le.h.out n e).symm
theorem Mb (R:Reg ops bs tch){X:Nat->Prop}{i:Nat}{o:Oper}(ho:ops[i]? =some o):tX ops s.t v (λj=>X j\/j=i)=(match o.dst with|some d=>upd (tX ops s.t v X) d (v i)|none=>tX ops s.t v X):=by
 funext n
 cases hd:o.dst with
 |none=>
  simp only
  have key:(∃j,(X j\/j=i)/\eD ops j=some n)↔∃j,X j/\eD ops j=some n:=by
   constructor
   . rintro⟨j,hj|rfl,h⟩
     . exact⟨j,hj,h⟩
     . obtain⟨p,hp,hpd⟩:=sA.1 h;rw[ho]at hp;injection hp with hp;subst hp;rw[hd]at hpd;cases hpd
   . rintro⟨j,hj,h⟩;exact⟨j,.inl hj,h⟩
  by_cases q:∃j,X j/\eD ops j=some n
  . obtain⟨j,hj,h⟩:=q;rw[lz R hj h,lz R (X:=λj=>X j\/j=i) (.inl hj) h]
  . rw[jG q,jG λz=>q (key.1 z)]
 |some d=>
  simp only;have hdi:eD ops i=some d:=sA.2 ⟨o,ho,hd⟩;by_cases e:n=d
  . subst e;rw[aj,lz R (X:=λj=>X j\/j=i) (.inr rfl) hdi]
  . rw[az _ _ e];by_cases q:∃j,X j/\eD ops j=some n
    . obtain⟨j,hj,h⟩:=q;rw[lz R hj h,lz R (X:=λj=>X j\/j=i) (.inl hj) h]
    . rw[jG q,jG];rintro⟨j,hj|rfl,h⟩
      . exact q ⟨j,hj,h⟩
      . rw[hdi]at h;injection h with h;exact e h.symm
theorem Sp {X:Nat->Prop}{i n m:Nat}(hr:ran i=false):hA ops tch s.h ran hv (λj=>X j\/j=i) n m=hA ops tch s.h ran hv X n m:=
 mz λj _=>⟨⟨λ⟨a,b,c⟩=>⟨(by rcases a with a|rfl;exact a;rw[hr]at b;cases b),b,c⟩,λ⟨a,b,c⟩=>⟨.inl a,b,c⟩⟩,λ_ _=>rfl⟩
end
def cnt :List Bool->Nat
 |[]=>0
 |true::l=>cnt l
 |false::l=>cnt l+1
theorem y8 :∀{l:List Bool}{i:Nat},l[i]? =some false->cnt (l.set i true)+1=cnt l
 |[],i,h=>by simp at h
 |b::l,0,h=>by simp at h;subst h;rfl
 |b::l,i+1,h=>by simp at h;have:=y8 h;cases b<;>simp[cnt,this]
theorem Sk {l:List Bool}{i:Nat}(h:l[i]? =some false):0<cnt l:=by have:=y8 h;omega
theorem least {p:Nat->Prop}:∀n,p n->∃j,p j/\∀l,l<j->¬p l:=by
 intro n
 induction n using Nat.strongRecOn with
 |_ n ih=>
  intro h;by_cases hl:∃l,l<n/\p l
  . obtain⟨l,h1,h2⟩:=hl;exact ih l h1 h2
  . exact⟨n,h,λl h1 h2=>hl ⟨l,h1,h2⟩⟩
section
variable {cfg : Cfg} {ops : Array Oper} {bs : List (List Nat)} {tch : List (Nat × List Nat)} {s : St} {v : Nat → V} {hv : Nat → Nat → B} {ran : Nat → Bool} {cx : Cx} {nt : Nat}
theorem MC {o:Oper}{e:Edge}(he:e∈o.after)(hb:Region.binds .any e=true):e.on∈e8 o:=by unfold e8;exact eZ.2 ⟨e,List.mem_filter.2 ⟨by simpa using he,hb⟩,rfl⟩
theorem Nk {o:Oper}{j:Nat}(h:j∈e8 o):∃e∈o.after,Region.binds .any e=true/\e.on=j:=by unfold e8 at h;obtain⟨e,he,rfl⟩:=eZ.1 h;obtain⟨h1,h2⟩:=List.mem_filter.1 he;exact⟨e,by simpa using h1,h2,rfl⟩
theorem th {j:Nat}:ops.toList[j]? =ops[j]? :=uQ
def tF (ops:Array Oper)(listed:Array Bool):Prop:=∀j o,listed.getD j false=true->ops.toList[j]? =some o->∀e∈e8 o,listed.getD e false=true
theorem uF {listed:Array Bool}(g:Reg ops.toList bs tch)(hc:tF ops listed){i:Nat}(hi:i∈Region.ready .any ops listed):(∃o,ops.toList[i]? =some o)/\listed.getD i true=false/\∀l∈cH bs i,listed.getD l false=true:=by
 obtain⟨h0,o,ho,hall⟩:=mem_ready.1 hi;have ho':ops.toList[i]? =some o:=by rw[th];exact ho
 refine⟨⟨o,ho'⟩,h0,λl hl=> ?_⟩;obtain⟨e,he,h⟩:=(g.j5.mem i o ho' l).1 hl;obtain⟨e',he',hb,rfl⟩:=Nk he;have h1:=hall e' he' hb;rcases h with rfl|h
 . exact h1
 . exact xC g.j5 g.back (X:=λj=>listed.getD j false=true) (λj o hj ho e he=>hc j o hj ho e he) _ _ h1 h
theorem HV {listed:Array Bool}(g:Reg ops.toList bs tch)(hc:tF ops listed){i:Nat}(hi:i∈Region.ready .any ops listed):tF ops (listed.setIfInBounds i true):=by
 intro j o hj ho e he;by_cases hji:j=i
 . subst hji;exact getD_set_true ((uF g hc hi).2.2 e (Eg g.j5 ho he))
 . rw[getD_set_ne false (Ne.symm hji)]at hj;exact getD_set_true (hc j o hj ho e he)
theorem xZ {listed:Array Bool}{i:Nat}(h:listed.getD i true=false):listed.toList[i]? =some false:=by
 cases e:listed[i]? with
 |none=>simp[e]at h
 |some b=>simp[e]at h;subst h;simpa using e
theorem Me {listed:Array Bool}{i:Nat}(h:listed.getD i true=false):¬listed.getD i false=true:=by
 cases e:listed[i]? with
 |none=>simp[e]at h
 |some b=>simp[e]at h;subst h;simp[e]
theorem w7 {listed:Array Bool}{i:Nat}(hlt:i<listed.size)(h:¬listed.getD i false=true):listed.getD i true=false:=by simp[hlt]at h⊢;exact h
theorem M8 {listed:Array Bool}(g:Reg ops.toList bs tch)(hsz:listed.size=ops.size){i:Nat}(hi:i<ops.size)(hn:¬listed.getD i false=true)(hb:∀l∈cH bs i,listed.getD l false=true):i∈Region.ready .any ops listed:=by
 have ho:ops[i]? =some ops[i]:=by simp[hi]
 refine mem_ready.2 ⟨w7 (by rw[hsz];exact hi) hn,ops[i],ho,λe he hbd=>hb _ (Eg g.j5 (by rw[th];exact ho) (MC he hbd))⟩
noncomputable def stL (ops:Array Oper)(tch:List (Nat×List Nat))(s:St)(v:Nat->V)(ran:Nat->Bool)(hv:Nat->Nat->B)(X:Nat->Prop):St:=stX ops.toList tch s v ran hv X ops.toList.length
theorem TM (T:Tab P cfg){l:List af}(hl:∀e∈l,e∈cfg.fns):Tab P {cfg with fns:=l}:=⟨T.tt,λe he=>T.fns e (hl e he),T.aB⟩
theorem Kd (hp:cfg.plain)(T:Tab P cfg)(hglob:cx.aB=cfg.aB)(hnt:cfg.n=nt)(R:Reg ops.toList bs tch)(F:∀i,i<ops.size->∃o,qw cfg ops.toList bs tch s v ran hv i o){Q:Exit->Act->World->Prop}
    (hQ:∀φ S a w,bA cx nt φ S (stL ops tch s v ran hv λj=>j<ops.size) a w->Q .normal a w):
    ∀fuel listed φ S a w,listed.size=ops.size->tF ops listed->cnt listed.toList≤fuel->bA cx nt φ S (stL ops tch s v ran hv λj=>listed.getD j false=true) a w->wpAny P .any ops Q fuel listed a w:=by
 have fin:∀(listed:Array Bool) φ S a w,listed.size=ops.size->tF ops listed->Region.ready .any ops listed=[]->bA cx nt φ S (stL ops tch s v ran hv λj=>listed.getD j false=true) a w->Q .normal a w:=by
  intro listed φ S a w hsz hc hr m
  have hall:∀j,j<ops.size->listed.getD j false=true:=by
   intro j hj;refine Classical.byContradiction λhn=> ?_
   obtain⟨i0,⟨hi0,hn0⟩,hmin⟩:=least (p:=λj=>j<ops.size/\¬listed.getD j false=true) j ⟨hj,hn⟩;have:i0∈Region.ready .any ops listed:=M8 R hsz hi0 hn0 λl hlb=>by have hlt:=kR R.j5 R.back _ _ hlb;exact Classical.byContradiction λh=>hmin l hlt ⟨by omega,h⟩
   rw[hr]at this;cases this
  have e:(λj=>listed.getD j false=true)=λj=>j<ops.size:=by
   funext j
   refine propext ⟨λh=> ?_,hall j⟩;refine Classical.byContradiction λhn=> ?_
   have:listed[j]? =none:=Array.getElem?_eq_none (by omega);simp[this]at h
  rw[e]at m;exact hQ φ S a w m
 intro fuel
 induction fuel with
 |zero=>
  intro listed φ S a w hsz hc hf m
  have hr:Region.ready .any ops listed=[]:=by
   cases e:Region.ready .any ops listed with
   |nil=>rfl
   |cons j l=>
    have hj:j∈Region.ready .any ops listed:=by rw[e];simp
    have:=Sk (xZ (uF R hc hj).2.1);omega
  exact⟨hr,fin listed φ S a w hsz hc hr m⟩
 |succ fuel ih=>
  intro listed φ S a w hsz hc hf m;refine⟨λhr=>fin listed φ S a w hsz hc hr m,λi hi=> ?_⟩;obtain⟨⟨o,ho⟩,hni,hbl⟩:=uF R hc hi;have hlt:i<ops.size:=by have:=(gq.1 ho).1;simpa using this
  have hni':=Me hni;have hcX:∀j,listed.getD j false=true->i∉cH bs j:=λj hj h=>hni' (xC R.j5 R.back (X:=λj=>listed.getD j false=true) (λj o hj ho e he=>hc j o hj ho e he) j i hj h)
  obtain⟨o',f⟩:=F i hlt;have:=f.op;rw[ho]at this;injection this with this;subst this
  have hX:(λj=>(listed.setIfInBounds i true).getD j false=true)=λj=>listed.getD j false=true\/j=i:=by
   funext j
   by_cases e:j=i
   . subst e;simp[hsz,hlt]
   . rw[getD_set_ne false (Ne.symm e)];simp[e]
  have next:∀φ S a w,bA cx nt φ S (stL ops tch s v ran hv λj=>listed.getD j false=true\/j=i) a w->wpAny P .any ops Q fuel (listed.setIfInBounds i true) a w:=by intro φ S a w m;refine ih _ φ S a w (by simp[hsz]) (HV R hc hi) ?_ (by rw[hX];exact m);have:=y8 (xZ hni);simp only[Array.toList_setIfInBounds];omega
  have putm:∀{φ S w val},bA cx nt φ S ⟨tX ops.toList s.t v λj=>listed.getD j false=true,λn=>hA ops.toList tch s.h ran hv (λj=>listed.getD j false=true\/j=i) n ops.toList.length⟩ a w->
      bB S w φ (λn=>hA ops.toList tch s.h ran hv (λj=>listed.getD j false=true\/j=i) n ops.toList.length) (v i) val->bA cx nt φ S (stL ops tch s v ran hv λj=>listed.getD j false=true\/j=i) (a.put o.dst val) w:=by
   intro φ S w val m hval;unfold stL stX;rw[Mb R ho]
   cases hd:o.dst with
   |none=>exact m
   |some d=>
    obtain⟨st3,h3,m3⟩:=m.put (d:=some d) hnt hval (κ:=some) (r:=⟨upd (tX ops.toList s.t v λj=>listed.getD j false=true) d (v i),λn=>hA ops.toList tch s.h ran hv (λj=>listed.getD j false=true\/j=i) n ops.toList.length⟩) (by
     have hdn:=f.lt d hd;simp only[put]
     rw[show Nat.blt d cfg.n=true by rwa[dM]])
    injection h3 with h3;subst h3;exact m3
  have gval:∀g dg,eD ops.toList g=some dg->g∈cH bs i->(stL ops tch s v ran hv λj=>listed.getD j false=true).t dg=v g:=λg dg h1 h2=>lz R (X:=λj=>listed.getD j false=true) (hbl g h2) h1
  have hoA:ops[i]? =some o:=by rw[<-th];exact ho
  unfold wpOp;simp only[hoA];rcases f.how with⟨a1,a2,l,r,a3,a4,a5,a6,a7,a8,a9⟩|⟨a1,a2,a3⟩
  . have hw:Region.wanted o (yielded ops a.tmps)=true:=by
     rcases a2 with a2|⟨g,want,dg,b1,b2,b3,b4⟩
     . simp[Region.wanted,a2]
     . have hr:=m.t dg;rw[gval g dg b2 b3,b4]at hr;rw[qR b1 (show(ops.toList[g]?).bind (·.dst)=some dg from b2) hr];simp
    rw[ah hw];have hev:=TJ (cfg:=cfg) hp R ho (X:=λj=>listed.getD j false=true) hni' hbl hcX a4 a1 a5 a6 a7 a8 a9;refine .inl (Hh (TM T a3) hglob m o hev λvv st2 φ' S' val w' h1 h2 h3 h4 h5=> ?_);obtain⟨rfl,rfl⟩:=bw h1;exact next φ' S' _ w' (putm ((m.later h2 h3 h4)) h5)
  . have hw:Region.wanted o (yielded ops a.tmps)=false:=by
     obtain⟨g,want,dg,b1,b2,b3,b4⟩:=a2;have hr:=m.t dg;rw[gval g dg b2 b3]at hr;rcases b4 with b4|⟨b,b4,hb⟩
     . rw[b4]at hr;exact yP b1 (show(ops.toList[g]?).bind (·.dst)=some dg from b2) hr
     . rw[b4]at hr;rw[qR b1 (show(ops.toList[g]?).bind (·.dst)=some dg from b2) hr];simpa using hb
    rw[ae (by rw[hw];simp)]
    have e:(stL ops tch s v ran hv λj=>listed.getD j false=true)=⟨tX ops.toList s.t v λj=>listed.getD j false=true,λn=>hA ops.toList tch s.h ran hv (λj=>listed.getD j false=true\/j=i) n ops.toList.length⟩:=by
     unfold stL stX
     congr 1
     funext n
     exact(Sp a1).symm
    rw[e]at m;exact next φ S _ w (putm m (by rw[a3];exact rfl))
end
end Go.Proofs.YtlkkaielmdlefaaGreatDoor.R1
namespace Go.Proofs.YtlkkaielmdlefaaGreatDoor.R1
variable {P : Program} {ρ : Type}
theorem uM {α:Type}{f:Nat->α}{d:Nat}{x:α}(h:f d=x):upd f d x=f:=by
 funext n
 by_cases e:n=d
 . subst e;rw[aj,h]
 . rw[az _ _ e]
section
variable {cfg : Cfg} {ops : List Oper} {bs : List (List Nat)} {tch : List (Nat × List Nat)} {s : St}
theorem Pf (R:Reg ops bs tch){v:Nat->V}{ran:Nat->Bool}{hv:Nat->Nat->B}{i:Nat}{o:Oper}(ho:ops[i]? =some o){vi:V}{b:Bool}{h:Nat->B}:
    stX ops tch s (upd v i vi) (upd ran i b) (upd hv i h) (λj=>j<i+1) (i+1)=
     ⟨match o.dst with|some d=>upd (stX ops tch s v ran hv (λj=>j<i) i).t d vi|none=>(stX ops tch s v ran hv (λj=>j<i) i).t,
      λn=>bif b&&jc tch o i n then h n else(stX ops tch s v ran hv (λj=>j<i) i).h n⟩:=by
 have eX:(λj=>j<i+1)=λj=>j<i\/j=i:=by funext j;exact propext ⟨λh=>by omega,λh=>by omega⟩
 have e0:=uL (s:=s) (v:=v) (v':=upd v i vi) (ran:=ran) (ran':=upd ran i b) (hv:=hv) (hv':=upd hv i h) R (i:=i) λj hj=>⟨(az _ _ (by omega)).symm,(az _ _ (by omega)).symm,(az _ _ (by omega)).symm⟩
 unfold stX at e0⊢;injection e0 with e1 e2;simp only[St.mk.injEq];refine⟨?_,?_⟩
 . rw[eX,Mb R ho,<-e1,aj]
   all_goals (cases o.dst<;>rfl)
 . funext n
   have e3:hA ops tch s.h (upd ran i b) (upd hv i h) (λj=>j<i+1) n i=hA ops tch s.h ran hv (λj=>j<i) n i:=by rw[congrFun e2 n];exact mz λj hj=>⟨⟨λ⟨_,b,c⟩=>⟨hj,b,c⟩,λ⟨a,b,c⟩=>⟨by omega,b,c⟩⟩,λ_ _=>rfl⟩
   rw[Sq,e3,aj,aj];by_cases hw:jc tch o i n=true
   . have hW:Wr ops tch i n:=⟨o,ho,hw⟩
     cases b with
     |true=>rw[ah ⟨by omega,rfl,hW⟩,hw];rfl
     |false=>rw[ae λq=>by cases q.2.1];rfl
   . have hW:¬Wr ops tch i n:=λ⟨p,hp,hpw⟩=>by rw[ho]at hp;injection hp with hp;subst hp;exact hw hpw
     rw[ae λq=>hW q.2.2];simp only[Bool.not_eq_true]at hw;rw[hw,Bool.and_false];rfl
theorem MB (hp:cfg.plain)(R:Reg ops bs tch){κ:St->Option ρ}{r:ρ}:∀(rest:List Oper)(i:Nat),rest=ops.drop i->i≤ops.length->∀(v:Nat->V)(ran:Nat->Bool)(hv:Nat->Nat->B),(∀j,j<i->∃o,qw cfg ops bs tch s v ran hv j o)->
    sE cfg bs tch ops i rest (stX ops tch s v ran hv (λj=>j<i) i) κ=some r->
    ∃v' ran' hv',(∀j,j<ops.length->∃o,qw cfg ops bs tch s v' ran' hv' j o)/\κ (stX ops tch s v' ran' hv' (λj=>j<ops.length) ops.length)=some r:=by
 intro rest
 induction rest with
 |nil=>
  intro i hrest his v ran hv F h
  have hi:i=ops.length:=by
   have:(ops.drop i).length=0:=by rw[<-hrest];rfl
   simp at this;omega
  subst hi;exact⟨v,ran,hv,F,h⟩
 |cons o rest ih=>
  intro i hrest his v ran hv F h
  have ho:ops[i]? =some o:=by
   have:(ops.drop i)[0]? =some o:=by rw[<-hrest];rfl
   simpa using this
  have hlt:i<ops.length:=(gq.1 ho).1
  have hrest':rest=ops.drop (i+1):=by
   have:(ops.drop i).tail=rest:=by rw[<-hrest];rfl
   rw[<-this];simp
  have hR:∀vi b hh,Rst ops bs tch s (upd v i vi) (upd ran i b) (upd hv i hh) i=qo bs tch ops i (stX ops tch s v ran hv (λj=>j<i) i):=by intro vi b hh;unfold Rst;rw[<-uL R λj hj=>⟨(az v vi (by omega:j≠i)).symm,(az ran b (by omega:j≠i)).symm,(az hv hh (by omega:j≠i)).symm⟩]
  have go:∀(vi:V)(b:Bool)(hh:Nat->B)(st2:St),st2.t=(stX ops tch s v ran hv (λj=>j<i) i).t->(∀n,st2.h n=bif b&&jc tch o i n then hh n else(stX ops tch s v ran hv (λj=>j<i) i).h n)->
      ((∀d,o.dst=some d->d<cfg.n)->qw cfg ops bs tch s (upd v i vi) (upd ran i b) (upd hv i hh) i o)->(put cfg st2 o.dst vi λst=>sE cfg bs tch ops (i+1) rest st κ)=some r->
      ∃v' ran' hv',(∀j,j<ops.length->∃o,qw cfg ops bs tch s v' ran' hv' j o)/\κ (stX ops tch s v' ran' hv' (λj=>j<ops.length) ops.length)=some r:=by
   intro vi b hh st2 ht hhh hf hp
   have hd:(∀d,o.dst=some d->d<cfg.n)/\sE cfg bs tch ops (i+1) rest ⟨match o.dst with|some d=>upd st2.t d vi|none=>st2.t,st2.h⟩ κ=some r:=by
    cases e:o.dst with
    |none=>rw[e]at hp;exact⟨λd h=>(by cases h),hp⟩
    |some d=>
     rw[e]at hp;simp only[put]at hp;split at hp
     . rename_i hdn;exact⟨λd' h=>by injection h with h;subst h;rwa[dM]at hdn,hp⟩
     . cases hp
   refine ih (i+1) hrest' (by omega) (upd v i vi) (upd ran i b) (upd hv i hh) (λj hj=> ?_) ?_
   . by_cases e:j=i
     . subst e;exact⟨o,hf hd.1⟩
     . obtain⟨p,fp⟩:=F j (by omega);exact⟨p,fp.congr R λl hl=>⟨(az _ _ (by omega)).symm,(az _ _ (by omega)).symm,(az _ _ (by omega)).symm⟩⟩
   . rw[Pf R ho]
     have e4:(⟨match o.dst with|some d=>upd (stX ops tch s v ran hv (λj=>j<i) i).t d vi|none=>(stX ops tch s v ran hv (λj=>j<i) i).t,λn=>bif b&&jc tch o i n then hh n else(stX ops tch s v ran hv (λj=>j<i) i).h n⟩:St)=⟨match o.dst with|some d=>upd st2.t d vi|none=>st2.t,st2.h⟩:=by
      rw[ht]
      congr 1
      funext n;exact(hhh n).symm
     rw[e4];exact hd.2
  generalize hst:stX ops tch s v ran hv (λj=>j<i) i=st at h go hR
  have run_:(∀vi,TS bs ops (upd v i vi) i o)->(aS cfg (qo bs tch ops i st) o λv st'=>match V.fE v,qT (qo bs tch ops i st) o&&(bW cfg (qo bs tch ops i st) o).all (jc tch o i)with
      |false,true=>put cfg ⟨st.t,λn=>bif jc tch o i n then st'.h n else st.h n⟩ o.dst v λst=>sE cfg bs tch ops (i+1) rest st κ
      |_,_=>none)=some r->∃v' ran' hv',(∀j,j<ops.length->∃o,qw cfg ops bs tch s v' ran' hv' j o)/\κ (stX ops tch s v' ran' hv' (λj=>j<ops.length) ops.length)=some r:=by
   intro hruns h;obtain⟨vi,r1,h1,h2⟩:=MV h;split at h2
   . rename_i q1 q2;simp only[aH,dj]at q2;obtain⟨t1,t2⟩:=IP hp h1;obtain⟨l,l1,l2,l3⟩:=MW h1;refine go vi true r1.h ⟨st.t,λn=>bif jc tch o i n then r1.h n else st.h n⟩ rfl (λn=>by rw[bj]) (λhd=>⟨ho,hd,.inl ⟨aj _ _ _,hruns vi,l,r1,l1,l2,?_,?_,?_,?_,?_⟩⟩) h2
     . rw[hR,aj];exact l3
     . rw[aj];exact q1
     . rw[hR];exact q2.1
     . intro n hn;rw[hR];exact t2 n λhm=>hn ⟨o,ho,q2.2 n hm⟩
     . intro n _;rw[aj]
   . cases h2
  have skip_:(∀vi,Pw bs ops (upd v i vi) i o)->(put cfg st o.dst .und λst=>sE cfg bs tch ops (i+1) rest st κ)=some r->∃v' ran' hv',(∀j,j<ops.length->∃o,qw cfg ops bs tch s v' ran' hv' j o)/\κ (stX ops tch s v' ran' hv' (λj=>j<ops.length) ops.length)=some r:=by intro hs h;exact go .und false (λ_=>.free) st rfl (λn=>by rw[oY];rfl) (λhd=>⟨ho,hd,.inr ⟨aj _ _ _,hs _,aj _ _ _⟩⟩) h
  simp only[sE]at h;split at h
  . rename_i eg;exact run_ (λ_=>.inl eg) h
  . rename_i q want eg;split at h
    case h_2=>cases h
    rename_i d ed hb;have hb:=any_beq.1 hb;have hqi:=kR R.j5 R.back _ _ hb;have htq:st.t d=v q:=by rw[<-hst];exact lz R (X:=λj=>j<i) hqi ed
    have hvq:∀vi,upd v i vi q=v q:=λvi=>az _ _ (by omega)
    split at h
    . rename_i b eb
      cases b with
      |true=>
       simp only[ab,uM eb]at h
       cases want with
       |true=>exact run_ (λvi=>.inr ⟨q,true,d,eg,ed,hb,by rw[hvq,<-htq];exact eb⟩) h
       |false=>exact skip_ (λvi=>⟨q,false,d,eg,ed,hb,.inr ⟨true,by rw[hvq,<-htq];exact eb,by simp⟩⟩) h
      |false=>
       simp only[ac,uM eb]at h
       cases want with
       |true=>exact skip_ (λvi=>⟨q,true,d,eg,ed,hb,.inr ⟨false,by rw[hvq,<-htq];exact eb,by simp⟩⟩) h
       |false=>exact run_ (λvi=>.inr ⟨q,false,d,eg,ed,hb,by rw[hvq,<-htq];exact eb⟩) h
    . rename_i eb;exact skip_ (λvi=>⟨q,want,d,eg,ed,hb,.inl (by rw[hvq,<-htq];exact eb)⟩) h
    . cases h
end
theorem bA.drawn {cx:Cx}{nt:Nat}{φ:Nat->Value}{S:Nat->Prop}{st:St}{a:Act}{w:World}(m:bA cx nt φ S st a w)(n:Nat):bA cx nt φ S st a {w with drawn:=n}:=by refine⟨λi=>bB.mono (w:=w) (w':={w with drawn:=n}) (λ_ h=>h) (λ_ _=>rfl) (λ_ h=>⟨h,rfl⟩) (m.t i),⟨λi=> ?_,m.m.apart,m.m.sep,m.m.inS,m.m.lt,m.m.aB,m.m.gl,m.m.kp,⟨m.m.keep.os,m.m.keep.tape,m.m.keep.output,m.m.keep.size,m.m.keep.block⟩⟩,m.size,m.defers⟩;exact ci.mono (w:=w) (w':={w with drawn:=n}) (λ_ h=>h) (λ_ _=>rfl) (λ_ h=>⟨h,rfl⟩) (λ_ _ _=>rfl) (m.m.b i)
theorem Uf (hm:P.follows .mixedOrders=true):xo P:=by
 intro ρ cfg T cx hg nt hn id ops Q κ r hQ φ S st a w m h;unfold Eo at h;have T0:Tab P {cfg with opens:=[],whole:=false}:=⟨T.tt,T.fns,T.aB⟩;have hp:Cfg.plain {cfg with opens:=[],whole:=false}:=⟨rfl,rfl⟩;have hg0:cx.aB=({cfg with opens:=[],whole:=false}:Cfg).aB:=hg;have hn0:({cfg with opens:=[],whole:=false}:Cfg).n=nt:=hn;generalize hcf:({cfg with opens:=[],whole:=false}:Cfg)=cfg0 at h T0 hp hg0 hn0;unfold Hg at h;generalize ((assoc cfg.touch id).getD [])=tch at h;split at h
 case h_2=>cases h
 rename_i hd;simp only[Ee,aH,dj,ji]at hd;obtain⟨⟨⟨h1,h2⟩,h3⟩,h4⟩:=hd;obtain⟨hgood,hback⟩:=Sn h1;have R:Reg ops.toList (lG ops.toList []) tch:=⟨hgood,hback,h2,λo ho d hd=>by have:=(h3 o ho).1;rw[hd]at this;simpa[dM]using this,h4⟩
 have e0:∀v ran hv,stX ops.toList tch st v ran hv (λj=>j<0) 0=st:=by
  intro v ran hv;unfold stX;have:tX ops.toList st.t v (λj=>j<0)=st.t:=by funext n;exact jG λ⟨j,hj,_⟩=>by omega
  rw[this];rfl
 obtain⟨v,ran,hv,F,hk⟩:=MB (s:=st) hp R ops.toList 0 rfl (eC _) (λ_=>.und) (λ_=>false) (λ_ _=>.free) (λj hj=>by omega) (by rw[e0];exact h);refine wp_region_any hm (Kd (s:=st) (v:=v) (ran:=ran) (hv:=hv) hp T0 hg0 hn0 R (λi hi=>F i (by simpa using hi)) (λφ S a w m=> ?_) ops.size (Array.replicate ops.size false) φ S a _ (by simp) (λj o hj=> ?_) ?_ ?_)
 . refine hQ _ φ S a w hk ?_;have:(λj=>j<ops.toList.length)=λj=>j<ops.size:=by funext j;simp
   rw[this];exact m
 . exfalso;by_cases q:j<ops.size<;>simp[q]at hj
 . have:∀n,cnt (List.replicate n false)=n:=by
    intro n;induction n with
    |zero=>rfl
    |succ n ih=>simp[List.replicate_succ,cnt,ih]
   simp[this]
 . have e1:(stL ops tch st v ran hv λj=>(Array.replicate ops.size false).getD j false=true)=st:=by
    unfold stL stX;have hno:∀j,¬(Array.replicate ops.size false).getD j false=true:=λj hj=>by by_cases q:j<ops.size<;>simp[q]at hj
    have t1:tX ops.toList st.t v (λj=>(Array.replicate ops.size false).getD j false=true)=st.t:=by funext n;exact jG λ⟨j,hj,_⟩=>hno j hj
    have t2:∀n,hA ops.toList tch st.h ran hv (λj=>(Array.replicate ops.size false).getD j false=true) n ops.toList.length=st.h n:=λn=>vj (s:=st) (i:=0) (eC _) λj _ _ h=>hno j h.1
    rw[t1]
    congr 1
    funext n;exact t2 n
   rw[e1];exact m.drawn _
end Go.Proofs.YtlkkaielmdlefaaGreatDoor.R1
namespace Go.Proofs.YtlkkaielmdlefaaGreatDoor.R1
def Fs :C->C->Bool
 |.int k n,.int k' n'=>decide (k=k')&&decide (n=n')
 |.bool a,.bool b=>a==b
 |.str s,.str s'=>Nat.beq s.size 0&&Nat.beq s'.size 0
 |.nils,.nils=>true
 |.nilp,.nilp=>true
 |.nilf,.nilf=>true
 |.nilm,.nilm=>true
 |_,_=>false
theorem Bv {s:ByteArray}(h:Nat.beq s.size 0=true):s=ByteArray.empty:=by have:=aR h;obtain⟨d⟩:=s;have:d= #[]:=Array.eq_empty_of_size_eq_zero this;subst this;rfl
theorem Mk {c c':C}(h:Fs c c'=true):c=c':=by
 cases c<;>cases c'<;>simp only[Fs,aH,bT,jg,bX]at h<;>first|rfl|(obtain⟨rfl,rfl⟩:=h;rfl)|(subst h;rfl)|(rw[Bv h.1,Bv h.2])
def vK :List C->List C->Bool
 |[],[]=>true
 |c::l,c'::l'=>Fs c c'&&vK l l'
 |_,_=>false
theorem yR :∀{l l':List C},vK l l'=true->l=l'
 |[],[],_=>rfl
 |c::l,c'::l',h=>by simp only[vK,aH]at h;rw[Mk h.1,yR h.2]
 |[],_::_,h=>by cases h
 |_::_,[],h=>by cases h
def vr :List (Nat×Nat)->List (Nat×Nat)->Bool
 |[],[]=>true
 |(a,b)::l,(a',b')::l'=>Nat.beq a a'&&Nat.beq b b'&&vr l l'
 |_,_=>false
theorem yq :∀{l l':List (Nat×Nat)},vr l l'=true->l=l'
 |[],[],_=>rfl
 |(a,b)::l,(a',b')::l',h=>by
  simp only[vr,aH]at h;rw[aR h.1.1,aR h.1.2,yq h.2]
 |[],_::_,h=>by cases h
 |_::_,[],h=>by cases h
def Jl (P:Program)(d:TypeDesc)(k:TK):Bool:=
 match d,k with
 |.int k,.int k'=>decide (k=k')
 |.bool,.bool=>true
 |.string,.str=>true
 |.struct fields,.struct fs=>vr (fields.toList.map λf=>(f.offset,f.type)) fs&&fields.toList.all λf=>match P.info? f.type with
  |some i=> !Nat.beq i.size 0
  |none=>false
 |.array n e,.arr n' e'=>Nat.beq n n'&&Nat.beq e e'
 |.slice e,.sl e'=>Nat.beq e e'
 |.pointer e,.ptr e'=>Nat.beq e e'
 |.func ..,.func=>true
 |.map k e,.map k' e'=>Nat.beq k k'&&Nat.beq e e'
 |.struct _,.other=>false
 |.array ..,.other=>false
 |_,.other=>true
 |_,_=>false
theorem Na {P:Program}{d:TypeDesc}{k:TK}(h:Jl P d k=true):eT P d k:=by
 cases d<;>cases k<;>simp only[Jl,jg,bT,aH]at h<;>(try cases h)<;>(try trivial)<;>(try exact h)
 case struct.struct.intro fields fs h1 h2=>
  refine⟨yq h1,λf hf=> ?_⟩;have:=dj.1 h2 f hf;split at this
  . rename_i i e;exact⟨i,e,λe0=>by rw[e0]at this;cases this⟩
  . cases this
 all_goals first|exact⟨aR (by assumption),aR (by assumption)⟩|exact aR h|trivial
def HN (P:Program)(t:TypeId)(i:TI):Bool:=
 (match P.underlying t with
  |some d=>Jl P d i.k&&(!i.eq||(!P.stoodInHeld t&& !P.eqGuardType P.depth t&&(match d with
   |.struct fields=>fields.toList.all λf=> !(f.name== "_")
   |_=>true)))
  |none=>false)&&
 (match P.info? t with
  |some inf=>Nat.beq inf.size i.size&&Nat.beq inf.bytes i.bytes&&(match inf.zero with
   |some z=>fo (isA z) i.agg&&Nat.beq z.cells.size i.size&&(!Nat.beq i.zero.length i.size||(match dF z.cells.toList with
    |some l=>vK l i.zero
    |none=>false))
   |none=>false)
  |none=>false)&&
 (Nat.beq i.u.n 0||(Nat.beq i.u.n i.size&&Nat.blt 0 i.bytes))
theorem Mm {P:Program}{t:TypeId}{i:TI}(h:HN P t i=true):dm P t i:=by
 simp only[HN,aH]at h;obtain⟨⟨h1,h2⟩,h3⟩:=h;split at h1
 case h_2=>cases h1
 rename_i d ed;simp only[aH,eB,ji]at h1;split at h2
 case h_2=>cases h2
 rename_i inf einf;simp only[aH]at h2;obtain⟨⟨h4,h5⟩,h6⟩:=h2;split at h6
 case h_2=>cases h6
 rename_i z ez;simp only[aH,eB,ji]at h6;refine⟨⟨d,ed,Na h1.1⟩,⟨inf,z,einf,aR h4,aR h5,ez,aR h6.1.2,λhz=> ?_⟩,λhu=> ?_,λhe=> ?_,λinf' z' hi' hz'=> ?_⟩
 . rcases h6.2 with h|h
   . rw[hz,jj]at h;cases h
   . split at h
     . rename_i l el;rw[el,yR h]
     . cases h
 . simp only[eB,aH,dM]at h3;rcases h3 with h|h
   . have:=aR h;omega
   . exact⟨aR h.1,h.2⟩
 . rcases h1.2 with h|h
   . rw[he]at h;cases h
   . refine⟨h.1.1,h.1.2,λd' hd'=> ?_⟩;rw[ed]at hd';injection hd' with hd';subst hd';have:=h.2;cases d<;>(try trivial);intro f hf;have:=dj.1 this f hf;simpa using this
 . rw[einf]at hi';injection hi' with hi';subst hi';rw[ez]at hz';injection hz' with hz';subst hz';exact eN h6.1.1
def WM (P:Program)(tt:TT):Bool:=tt.all λp=>HN P p.1 p.2
theorem F8 {P:Program}{tt:TT}(h:WM P tt=true):cg P tt:=λt i ht=>Mm (dj.1 h _ (cV ht))
def vd (fn:Func):Bool:= !(fn.name== "runtime.NumGoroutine")&& !fn.body.isNone
theorem xS {P:Program}{e:af}{fn:Func}(h:P.funcs[e.id]? =some fn)(hc:vd fn=true):gS P e:=by simp only[vd,aH,ji]at hc;exact⟨fn,h,hc.1,hc.2⟩
variable {P : Program}
def wr (k:IntKind)(n:Int):Int:=k.wrap n
def fc (k:IntKind)(x y:Int):Int:=k.wrap (BitVec.ofInt k.bits x&&&BitVec.ofInt k.bits y).toNat
def ior (k:IntKind)(x y:Int):Int:=k.wrap (BitVec.ofInt k.bits x|||BitVec.ofInt k.bits y).toNat
def w9 (k:IntKind)(x y:Int):Int:=k.wrap (BitVec.ofInt k.bits x^^^BitVec.ofInt k.bits y).toNat
def fe (k:IntKind)(x y:Int):Int:=k.wrap (x*2^(min y.toNat k.bits))
def fy (k:IntKind)(x y:Int):Int:=x.fdiv (2^(min y.toNat k.bits))
def kP (P:Program)(aB:Nat->B)(e:af):Prop:=gS P e/\∀k,gy P aB k e
def pY (P:Program)(aB:Nat->B)(j:Nat):List af->Prop
 |[]=>True
 |e::r=>(gS P e/\gy P aB j e)/\pY P aB j r
theorem pY.mem {aB:Nat->B}{j:Nat}:∀{l:List af},pY P aB j l->∀e∈l,gS P e/\gy P aB j e
 |[],_,e,he=>by cases he
 |a::l,h,e,he=>by
  rcases aG.1 he with rfl|he
  . exact h.1
  . exact pY.mem h.2 e he
theorem kP.at {aB:Nat->B}{e:af}(h:kP P aB e)(j:Nat):gS P e/\gy P aB j e:=⟨h.1,h.2 j⟩
def jy (cfg:Full):Code->List Prop
 |.seq a b=>jy cfg a++(jy cfg b++match(fk b).bind (assoc cfg.joins)with
  |some ct=>[dh cfg ct b]
  |none=>[])
 |.cond _ x y=>jy cfg x++jy cfg y
 |.block _ b=>jy cfg b
 |.loop b=>jy cfg b++match(rT b).bind (assoc cfg.cuts)with
  |some ct=>[aF cfg ct b]
  |none=>[]
 |_=>[]
def tC :List Prop->Prop
 |[]=>True
 |p::r=>p/\tC r
theorem tC.mem :∀{l:List Prop},tC l->∀p∈l,p
 |[],_,p,hp=>by cases hp
 |a::l,h,p,hp=>by
  rcases aG.1 hp with rfl|hp
  . exact h.1
  . exact tC.mem h.2 p hp
theorem K8 {cfg:Full}:∀{c:Code},(∀p∈jy cfg c,p)->Obl cfg c:=by
 intro c
 induction c with
 |seq a b iha ihb=>
  intro h;refine⟨iha λp hp=>h p (by simp[jy,hp]),ihb λp hp=>h p (by simp[jy,hp]),?_⟩;split
  . rename_i i e1;split
    . rename_i ct e2;exact h _ (by simp[jy,e1,e2])
    . trivial
  . trivial
 |cond x a b iha ihb=>intro h;exact⟨iha λp hp=>h p (by simp[jy,hp]),ihb λp hp=>h p (by simp[jy,hp])⟩
 |block i b ih=>intro h;exact ih λp hp=>h p (by simpa[jy]using hp)
 |loop b ih=>
  intro h;refine⟨ih λp hp=>h p (by simp[jy,hp]),?_⟩;split
  . rename_i i e1;split
    . rename_i ct e2;exact h _ (by simp[jy,e1,e2])
    . trivial
  . trivial
 |_=>intro h;trivial
@[irreducible] def uV (cfg : Full) (fn : Func) : List Prop := match fn.body with
 | some c => jy cfg c
 | none => []
def pF (i:Nat):Code->Option Code
 |.seq a b=>(pF i a).or (pF i b)
 |.cond _ x y=>(pF i x).or (pF i y)
 |.block _ b=>pF i b
 |.loop b=>(match rT b with
  |some j=>bif Nat.beq i j then some b else none
  |none=>none).or (pF i b)
 |_=>none
def pC (i:Nat):Code->Option Code
 |.seq a b=>(match fk b with
  |some j=>bif Nat.beq i j then some b else none
  |none=>none).or ((pC i a).or (pC i b))
 |.cond _ x y=>(pC i x).or (pC i y)
 |.block _ b=>pC i b
 |.loop b=>pC i b
 |_=>none
def Kk (fn:Func):Code:=fn.body.getD .skip
def au (fn:Func)(i:Nat):Code:=(pF i (Kk fn)).getD .skip
def cY (fn:Func)(i:Nat):Code:=(pC i (Kk fn)).getD .skip
def cG (l:List (Nat×B))(n:Nat):B:=(assoc l n).getD .free
theorem vT :∀{l:List (Nat×B)},(l.all λp=>bH p.1)=true->∀n,bH n=false->cG l n=.free
 |[],_,n,_=>rfl
 |(m,b)::r,h,n,hn=>by
  simp only[List.all_cons,aH]at h;unfold cG;simp only[assoc]
  cases e:Nat.beq m n with
  |true=>have:=aR e;subst this;rw[hn]at h;cases h.1
  |false=>exact vT h.2 n hn
structure Ml (P:Program)(tt:TT)(aB:Nat->B):Prop where
 draw:xo P
 tt:cg P tt
 aB:∀n,bH n=false->aB n=.free
theorem Pe {tt:TT}{aB:Nat->B}(Bs:Ml P tt aB){fn:Func}{e:af}(hf:P.funcs[e.id]? =some fn)(hc:(vd fn&&e.ar.blocks.all (λb=>gB b.1))=true)(cfg:Nat->Full)
    (h1:∀k,(cfg k).tt=tt/\(cfg k).aB=aB) (hfn:∀k j,pY P aB j (cfg k).fns) (hob:∀k,tC (uV (cfg k) fn)) (hev:∀k v,e.f k v=zm (cfg k) fn e.ar e.res (e.ar.st aB v) some):kP P aB e:=by
 simp only[aH]at hc;refine⟨xS hf hc.1,λk=> ?_⟩
 have:=Es Bs.draw (cfg:=cfg k) (k:=k) hf (⟨by show cg P (cfg k).tt;rw[(h1 k).1];exact Bs.tt,by show ∀e∈(cfg k).fns,gS P e/\gy P (cfg k).aB (cfg k).k e;rw[(h1 k).2];exact(hfn k _).mem,by show ∀n,bH n=false->(cfg k).aB n=.free;rw[(h1 k).2];exact Bs.aB⟩)
  (λc hcb=>K8 λp hp=>(hob k).mem p (by unfold uV;rw[hcb];exact hp)) (λv=>by rw[(h1 k).2];exact hev k v) hc.2
 rw[(h1 k).2]at this;exact this
theorem L3 {tt:TT}{aB:Nat->B}(Bs:Ml P tt aB){fn:Func}{e:af}(hf:P.funcs[e.id]? =some fn)(hc:(vd fn&&e.ar.blocks.all (λb=>gB b.1))=true)(cfg:Nat->Full)
    (h1:∀k,(cfg k).tt=tt/\(cfg k).aB=aB/\(cfg k).k=k) (hfn:∀k j,(gS P e/\gy P aB j e)->pY P aB j (cfg k).fns) (hob:∀k,tC (uV (cfg k) fn)) (h0:∀v,e.f 0 v=none)
    (hev:∀k v,e.f (k+1) v=zm (cfg k) fn e.ar e.res (e.ar.st aB v) some):kP P aB e:=by
 simp only[aH]at hc;have hE:=xS hf hc.1;refine⟨hE,λk=> ?_⟩
 induction k using Nat.strongRecOn with
 |_ k ih=>
  cases k with
  |zero=>exact⟨hc.2,λv o hv=>by rw[h0]at hv;cases hv⟩
  |succ k=>
   have:=Es Bs.draw (cfg:=cfg k) (k:=k+1) hf (⟨by show cg P (cfg k).tt;rw[(h1 k).1];exact Bs.tt,by
       show ∀e∈(cfg k).fns,gS P e/\gy P (cfg k).aB (cfg k).k e
       rw[(h1 k).2.1,(h1 k).2.2];exact(hfn k k ⟨hE,ih k (by omega)⟩).mem,by show ∀n,bH n=false->(cfg k).aB n=.free;rw[(h1 k).2.1];exact Bs.aB⟩)
    (λc hcb=>K8 λp hp=>(hob k).mem p (by unfold uV;rw[hcb];exact hp)) (λv=>by rw[(h1 k).2.1];exact hev k v) hc.2
   rw[(h1 k).2.1]at this;exact this
theorem L2 {aB:Nat->B}{id:Nat}{u:U}{res:Spec}{fN:Nat->(Spec.mk [(0,.c (.lit .nils))] [] []).V->Option res.V}{fX:Nat->(Spec.mk [(0,.c (.slx u))] [] []).V->Option res.V}{fS:Nat->(Spec.mk [(0,.c (.sl u))] [] []).V->Option res.V}
    (sN:kP P aB ⟨id,⟨[(0,.c (.lit .nils))],[],[]⟩,res,fN⟩) (sX:kP P aB ⟨id,⟨[(0,.c (.slx u))],[],[]⟩,res,fX⟩)
    (h:∀k(l:List (El u)) o,fS k ((l,()),())=some o->fX k ((l,()),())=some o/\(l=[]->fN k (((),()),())=some o)):kP P aB ⟨id,⟨[(0,.c (.sl u))],[],[]⟩,res,fS⟩:=by
 refine⟨sN.1,λk=>⟨rfl,?_⟩⟩;rintro⟨⟨l,_⟩,_⟩ o hv cx φ S w args hg hw hφ m ht hsz;obtain⟨hX,hN⟩:=h k l o hv;have h0:=ht 0;have h0':Rep S w (.sl u) l [args.getD 0 undef]:=h0;have h0'':=h0';obtain⟨A,cap,cs,e,hc,hl,hA⟩:=h0'';injection e with e _
 cases A with
 |none=>
  obtain⟨hnil,hcap⟩:=hA;refine(sN.2 k).2 (((),()),()) o (hN hnil) cx φ S w args hg hw hφ m (λi=> ?_) hsz;by_cases hi:i=0
  . subst hi;show args.getD 0 undef=.slice none 0 0;rw[e,hnil,hcap];rfl
  . show bB S w φ _ (upd (λ_=>V.bad) 0 _ i) _;rw[az _ _ hi];trivial
 |some a=>
  refine(sX.2 k).2 ((l,()),()) o hX cx φ S w args hg hw hφ m (λi=> ?_) hsz;by_cases hi:i=0
  . subst hi;exact⟨h0',a,_,_,e⟩
  . show bB S w φ _ (upd (λ_=>V.bad) 0 _ i) _;rw[az _ _ hi];trivial
end Go.Proofs.YtlkkaielmdlefaaGreatDoor.R1
