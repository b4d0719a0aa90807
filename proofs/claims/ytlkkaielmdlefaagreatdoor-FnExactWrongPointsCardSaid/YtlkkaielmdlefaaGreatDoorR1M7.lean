/- Part 7: The laws' own words on patterns: sizes, copies, equality. -/
import Derived.Test.YtlkkaielmdlefaaGreatDoorR1M6
import Derived.Test.YtlkkaielmdlefaaGreatDoorR1M4
import Derived.Test.YtlkkaielmdlefaaGreatDoorR1M5
set_option linter.unusedVariables false
namespace Go.Proofs.YtlkkaielmdlefaaGreatDoor.R
open R1 Z2
theorem Wc {n:Nat}{c:CrG}(h:cW n c=true):0≤c.1/\c.1<c.2.1/\c.2.1<n/\1≤c.2.2/\c.2.2≤4:=by unfold cW at h;simp only[aH,bT]at h;omega
theorem Mi {x:Int}(h1: -9223372036854775808≤x)(h2:x≤9223372036854775807):wr .i64 x=x:=by unfold wr;rw[IntKind.wrap_i64];omega
theorem Cl (k:Nat)(L:List PtG)(C:List CrG)(hL:L.length≤maxLen)(hC:C.length≤maxLen):
    ∃r:Int,f7 k L C 1048576=some ((r,()),())/\(r<0\/L.length+C.length≤1048576):=by
 have e:maxLen=9223372036854775807:=rfl;unfold f7 f26 f27;dsimp only;rw[Mi (x:=(1048576:Int)-(L.length:Int)) (by omega) (by omega)];by_cases q:(1048576:Int)-(L.length:Int)<0
 . rw[dlt q];exact⟨-1,rfl,.inl (by omega)⟩
 . rw[eJ (by omega),ac];simp only[aa];rw[eJ (by omega),ac];rw[Mi (x:=(1048576:Int)-(L.length:Int)-(C.length:Int)) (by omega) (by omega)];by_cases q2:(1048576:Int)-(L.length:Int)-(C.length:Int)<0
   . rw[dlt q2];exact⟨-1,rfl,.inl (by omega)⟩
   . rw[eJ (by omega),ac];simp only[aa];rw[eJ (by omega),ac];exact⟨_,rfl,.inr (by omega)⟩
theorem Ep {α:Type}{a l:List α}(h0:a.length=l.length)(h:∀m,m<l.length->a[m]? =l[m]?):a=l:=r9 λm=>by
 by_cases q:m<l.length
 . exact h m q
 . rw[iE (by omega),iE (by omega)]
theorem E5 {α:Type}{a l:List α}{i:Nat}{x:α}(h0:a.length=l.length)(hi:l[i]? =some x)(h:∀m,m<i->a[m]? =l[m]?)(m:Nat)(hm:m<i+1):(a.set i x)[m]? =l[m]? :=by
 have hl:i<l.length:=by
  rcases dy i l.length with q|q
  . exact q
  . rw[iE q]at hi;cases hi
 by_cases e:m=i
 . subst e;rw[kN (by omega),hi]
 . rw[nF (λe'=>e e'.symm)];exact h m (by omega)
theorem yK (k:Nat)(L:List PtG)(hL:L.length≤1048576):∀(r:List PtG)(i j:Nat)(acc:List PtG){ρ:Type}(nx:((((Unit×Unit)×((List PtG)×Unit))->Option ρ)×Unit)),L.drop i=r->acc.length=L.length->(∀m,m<i->acc[m]? =L[m]?)->r.length+1≤j->
    ru k j L (i:Int) acc nx=nx.1 (((),()),(L,()))
 |[],i,j,acc,ρ,nx,h,ha,hm,hj=>by
  obtain⟨j,rfl⟩:=aA hj;unfold ru;rw[aP h,ac,Ep ha λm q=>hm m (by have:=jB h;omega)]
 |p::r,i,j,acc,ρ,nx,h,ha,hm,hj=>by obtain⟨j,rfl⟩:=aA hj;have hl:=aK h;simp only[ax]at hj;have ih:=yK k L hL r (i+1) j (acc.set i p) nx (an h) (by rw[ch];exact ha) (E5 ha (aO h) hm) (by omega);unfold ru f41 f79;rw[aJ h,ab,aE h];simp only[aa];rw[bnd (show i<acc.length by omega),ab,bK,aL (show i<acc.length by omega),ak (by omega)];exact ih
theorem yJ (k:Nat)(L:List CrG)(hL:L.length≤1048576):∀(r:List CrG)(i j:Nat)(acc:List CrG){ρ:Type}(nx:((((Unit×Unit)×((List CrG)×Unit))->Option ρ)×Unit)),L.drop i=r->acc.length=L.length->(∀m,m<i->acc[m]? =L[m]?)->r.length+1≤j->
    rv k j L (i:Int) acc nx=nx.1 (((),()),(L,()))
 |[],i,j,acc,ρ,nx,h,ha,hm,hj=>by
  obtain⟨j,rfl⟩:=aA hj;unfold rv;rw[aP h,ac,Ep ha λm q=>hm m (by have:=jB h;omega)]
 |p::r,i,j,acc,ρ,nx,h,ha,hm,hj=>by obtain⟨j,rfl⟩:=aA hj;have hl:=aK h;simp only[ax]at hj;have ih:=yJ k L hL r (i+1) j (acc.set i p) nx (an h) (by rw[ch];exact ha) (E5 ha (aO h) hm) (by omega);unfold rv f42;rw[aJ h,ab,aE h];simp only[aa];rw[bnd (show i<acc.length by omega),ab,bK,aL (show i<acc.length by omega),ak (by omega)];exact ih
theorem Cn {k:Nat}{L:List PtG}{C:List CrG}(h:L.length+C.length≤1048576)(hk:1048576+10≤k):f9 k L C=some ((((),(),()),()),(L,C,())):=by
 have hr:roomy=140737488351232:=rfl;have a1:=yK k L (by omega) L 0 k (List.replicate L.length ((0,(0,0)),(0,(0,0)))) (ρ:=(Unit×Unit)×(List PtG)×Unit) (λx11=>some (((),()),(x11.2.1,())),()) rfl (by simp) (λm h=>absurd h (by omega)) (by omega);have a2:=yJ k C (by omega) C 0 k (List.replicate C.length (0,(0,0))) (ρ:=(Unit×Unit)×(List CrG)×Unit) (λx11=>some (((),()),(x11.2.1,())),()) rfl (by simp) (λm h=>absurd h (by omega)) (by omega);have e1:f28 k L=some (((),()),(L,())):=by unfold f28;rw[show(decide ((L.length:Int)=(L.length:Int))&&decide (0≤(L.length:Int))&&decide ((L.length:Int)*48≤roomy))=true from by rw[aH,aH,bT,bT,bT];exact⟨⟨rfl,by omega⟩,by omega⟩,ab];exact a1
 have e2:f29 k C=some (((),()),(C,())):=by unfold f29;rw[show(decide ((C.length:Int)=(C.length:Int))&&decide (0≤(C.length:Int))&&decide ((C.length:Int)*24≤roomy))=true from by rw[aH,aH,bT,bT,bT];exact⟨⟨rfl,by omega⟩,by omega⟩,ab];exact a2
 unfold f9;rw[e1];simp only[aa];rw[e2];rfl
theorem dB (a:Int):(a !=a)=false:=by simp
theorem xU (k:Nat)(L:List PtG)(hL:L.length≤1048576):∀(r:List PtG)(i j:Nat){ρ:Type}(nx:(((Unit×Unit)->Option ρ)×(((Bool×Unit)×Unit)->Option ρ)×Unit)),L.drop i=r->r.length+1≤j->
    rz k j L L (i:Int) nx=nx.1 ((),())
 |[],i,j,ρ,nx,h,hj=>by
  obtain⟨j,rfl⟩:=aA hj;unfold rz;rw[aP h,ac]
 |p::r,i,j,ρ,nx,h,hj=>by obtain⟨j,rfl⟩:=aA hj;have hl:=aK h;simp only[ax]at hj;have ih:=xU k L hL r (i+1) j nx (an h) (by omega);unfold rz f43 f80;rw[aJ h,ab,aE h];simp only[aa,dB,ac,bi];rw[ak (by omega)];exact ih
theorem xT (k:Nat)(L:List CrG)(hL:L.length≤1048576):∀(r:List CrG)(i j:Nat){ρ:Type}(nx:(((Unit×Unit)->Option ρ)×(((Bool×Unit)×Unit)->Option ρ)×Unit)),L.drop i=r->r.length+1≤j->
    rC k j L L (i:Int) nx=nx.1 ((),())
 |[],i,j,ρ,nx,h,hj=>by
  obtain⟨j,rfl⟩:=aA hj;unfold rC;rw[aP h,ac]
 |p::r,i,j,ρ,nx,h,hj=>by obtain⟨j,rfl⟩:=aA hj;have hl:=aK h;simp only[ax]at hj;have ih:=xT k L hL r (i+1) j nx (an h) (by omega);unfold rC f44;rw[aJ h,ab,aE h];simp only[aa,dB,ac,bi];rw[ak (by omega)];exact ih
theorem Cd {k:Nat}{L:List PtG}{C:List CrG}(h:L.length+C.length≤1048576)(hk:1048576+10≤k):f11 k L C L C=some ((true,()),()):=by
 have a1:=xU k L (by omega) L 0 k (ρ:=(Bool×Unit)×Unit) (λ_=>some ((true,()),()),λx10=>some ((x10.1.1,()),()),()) rfl (by omega);have a2:=xT k C (by omega) C 0 k (ρ:=(Bool×Unit)×Unit) (λ_=>some ((true,()),()),λx10=>some ((x10.1.1,()),()),()) rfl (by omega);have e1:f30 k L L=some ((true,()),()):=by unfold f30;rw[dB,ac];exact a1
 have e2:f31 k C C=some ((true,()),()):=by unfold f31;rw[dB,ac];exact a2
 unfold f11;rw[e1];simp only[aa,bi,ac];rw[e2];rfl
open R1 Z2 Go.Sort
theorem ray {K Q Y:V2}(h:bS (aD Q K)=bS (aD Y K))(hn:bS (aD Q K)≠ -1):bI K Q Y\/bI K Y Q:=by
 obtain⟨_,_,g1⟩:=iw hn;obtain⟨_,_,g2⟩:=iw (h▸hn);rw[<-h]at g2;generalize vec (bS (aD Q K))=v at*;have e1:o (dot v K) (dot v Y)=1:=by unfold o;rw[<-dD];exact g2.s
 have e2:o (dot v K) (dot v Q)=1:=by unfold o;rw[<-dD];exact g1.s
 have b:=ff (dot v Q) (dot v Y);by_cases q:o (dot v Q) (dot v Y)≤0
 . left;rw[g1.on,e1];exact⟨by rw[g2.c];rfl,by omega⟩
 . right;rw[g2.on,e2,cu (dot v Q) (dot v Y)];exact⟨by rw[g1.c];rfl,by omega⟩
theorem My (v w:V2):ao (kh v) (kh w)=ao v w:=by simp only[ao,kh,Z2.mul,Z2.sub,Z2.neg,Prod.mk.injEq];constructor<;>grind
theorem Ue (v w:V2):dot (kh v) (kh w)=dot v w:=by simp only[dot,kh,Z2.mul,Z2.add,Z2.neg,Prod.mk.injEq];constructor<;>grind
theorem Mg (P Q:V2):aD P Q=kh (aD Q P):=by simp only[aD,kh,Z2.sub,Z2.neg,Prod.mk.injEq];refine⟨⟨?_,?_⟩,?_,?_⟩<;>omega
theorem tT :∀(n:Nat)(d:Int)(w:V2),ca n d w= -1->0≤d->∀e:Int,d≤e->e<d+n->¬(ao (vec e) w=(0,0)/\(dot (vec e) w).sg=1)
 |0,d,w,_,_,e,h1,h2=>by omega
 |n+1,d,w,h,h0,e,h1,h2=>by
  simp only[ca]at h;split at h
  . omega
  . rename_i q;by_cases e1:e=d
    . rw[e1];exact q
    . exact tT n (d+1) w h (by omega) e (by omega) (by omega)
theorem WI :∀a:Fin 16,fP.getD ((a.val+8)%16) ((0,0),(0,0))=kh (fP.getD a.val ((0,0),(0,0))):=by decide+kernel
theorem y9 {P Q:V2}(h:bS (aD Q P)≠ -1):bS (aD P Q)≠ -1:=λhn=>by
 obtain⟨h0,h1,g⟩:=iw h;rw[Mg P Q]at hn;refine tT 16 0 _ hn (jP _) ((bS (aD Q P)+8)%16) (by omega) (by omega) ?_;generalize bS (aD Q P)=d at*;have e:vec ((d+8)%16)=kh (vec d):=by have:=WI ⟨d.toNat,by omega⟩;unfold vec;rw[show((d+8)%16%16).toNat=(d.toNat+8)%16 by omega,show(d%16).toNat=d.toNat by omega];exact this
 rw[e,My,Ue];exact⟨g.c,g.s⟩
theorem HY (P K X:V2):ao (aD P K) (aD X K)=(ao (aD K P) (aD X P)).neg:=by simp only[ao,aD,Z2.mul,Z2.sub,Z2.neg,Prod.mk.injEq];constructor<;>grind
theorem n7 {P K X:V2}:bI P K X↔bI K P X:=by unfold bI;rw[MA (aD X K) (aD X P),HY P K X,<-cq (x:=(ao (aD K P) (aD X P)).neg),dT,<-cq];constructor<;>exact λ⟨a,b⟩=>⟨by omega,b⟩
def bN (L:List PtG)(C:List CrG)(t i:Int):Int:=match aq C i with
 |some c=>aI (atP L t) (atP L (c.1+c.2.1-t))
 |none=> -1
def fL (t:Int)(c:CrG):Bool:=c.1==t||c.2.1==t
theorem sY {L:List PtG}:∀(r pre:List CrG)(i k:Nat){c d:CrG},eM L pre r=true->k<i->r[i]? =some c->r[k]? =some d->gP L c d=false
 |[],pre,i,k,c,d,h,hk,hi,hd=>by simp at hi
 |x::r,pre,i,k,c,d,h,hk,hi,hd=>by
  unfold eM at h;rw[aH]at h;obtain⟨i,rfl⟩:∃m,i=m+1:=⟨i-1,by omega⟩;rw[List.getElem?_cons_succ]at hi
  cases k with
  |succ k=>
   rw[List.getElem?_cons_succ]at hd;exact sY r _ i k h.2 (by omega) hi hd
  |zero=>
   simp only[List.getElem?_cons_zero,jh]at hd;subst hd
   have key:∀(r pre:List CrG)(i:Nat){c:CrG},eM L pre r=true->r[i]? =some c->∀d∈pre,gP L c d=false:=by
    intro r
    induction r with
    |nil=>intro pre i c _ hi;simp at hi
    |cons y r ih=>
     intro pre i c h hi d hd;unfold eM at h;rw[aH]at h
     cases i with
     |zero=>
      simp only[List.getElem?_cons_zero,jh]at hi;subst hi;have:=dj.1 h.1 d hd;simpa using this
     |succ i=>rw[List.getElem?_cons_succ]at hi;exact ih _ i h.2 hi d (List.mem_append_left _ hd)
   exact key r _ i h.2 hi x (by simp)
section
variable {kk : Nat} {L : List PtG} {C : List CrG}
theorem Hp (g:cT L C){c d:CrG}(hc:c∈C)(hd:d∈C){t:Int}(tc:fL t c=true)(td:fL t d=true)(h:aI (atP L t) (atP L (c.1+c.2.1-t))=aI (atP L t) (atP L (d.1+d.2.1-t))):gP L c d=true:=by
 obtain⟨p,q,e1,e2,o1,o2,hda,a1,a2,n1⟩:=g.get hc;obtain⟨x,y,e3,e4,o3,o4,hdb,a3,a4,n2⟩:=g.get hd;obtain⟨d0,d1,g1⟩:=iw n1;obtain⟨f0,f1,g2⟩:=iw n2;obtain⟨_,m1,m2,m3,m4⟩:=EJ (P:=pt p) (Q:=pt q) (X:=pt x) (Y:=pt y) d0 d1 f0 f1 g1 g2;unfold fL at tc td;rw[eB,bX,bX]at tc td;have hs:kE c d=true:=by unfold kE;simp only[eB,bT];omega
 unfold gP;rw[hs,a1,a2,a3,a4,hda,hdb];unfold aI at h;rcases tc with tc|tc<;>rcases td with td|td
 . rw[show c.1+c.2.1-t=c.2.1 by omega,show d.1+d.2.1-t=d.2.1 by omega,<-tc,a1,a2]at h;rw[show d.1=c.1 by omega,a1]at a3;subst a3;rw[a4]at h;exact(m1 rfl).2 (ray h n1)
 . rw[show c.1+c.2.1-t=c.2.1 by omega,show d.1+d.2.1-t=d.1 by omega,<-tc,a1,a2]at h;rw[show d.2.1=c.1 by omega,a1]at a4;subst a4;rw[a3]at h;rw[m3 rfl,n7 (P:=pt x)];exact ray h n1
 . rw[show c.1+c.2.1-t=c.1 by omega,show d.1+d.2.1-t=d.2.1 by omega,<-tc,a1,a2]at h;rw[show d.1=c.2.1 by omega,a2]at a3;subst a3;rw[a4]at h;rw[m4 rfl,n7 (P:=pt p)];exact ray h (y9 n1)
 . rw[show c.1+c.2.1-t=c.1 by omega,show d.1+d.2.1-t=d.1 by omega,<-tc,a1,a2]at h;rw[show d.2.1=c.2.1 by omega,a2]at a4;subst a4;rw[a3]at h;rw[m2 rfl,n7 (P:=pt p),n7 (P:=pt x)];exact ray h (y9 n1)
structure AtT (L:List PtG)(C:List CrG)(t i:Int):Prop where
 i0:0≤i
 i1:i<C.length
 h:∃c,aq C i=some c/\c∈C/\C[i.toNat]? =some c/\fL t c=true
theorem Ec (g:cT L C)(hp:eM L [] C=true){t i k:Int}(hi:AtT L C t i)(hk:AtT L C t k)(h:bN L C t i=bN L C t k):i=k:=by
 obtain⟨c,c1,c2,c3,c4⟩:=hi.h;obtain⟨d,d1,d2,d3,d4⟩:=hk.h;have i0:=hi.i0;have k0:=hk.i0;unfold bN at h;rw[c1,d1]at h;rcases Int.lt_trichotomy i k with q|q|q
 . have:=sY C [] k.toNat i.toNat hp (by omega) d3 c3;rw[Hp g d2 c2 d4 c4 h.symm]at this;cases this
 . exact q
 . have:=sY C [] i.toNat k.toNat hp (by omega) c3 d3;rw[Hp g c2 d2 c4 d4 h]at this;cases this
theorem H2 (g:cT L C){t i:Int}(hi:AtT L C t i):0≤bN L C t i/\bN L C t i<16:=by
 obtain⟨c,c1,c2,c3,c4⟩:=hi.h;obtain⟨p,q,e1,e2,o1,o2,hda,a1,a2,n1⟩:=g.get c2;unfold fL at c4;rw[eB,bX,bX]at c4;unfold bN;rw[c1];dsimp only;unfold aI;rcases c4 with e|e
 . rw[show c.1+c.2.1-t=c.2.1 by omega,<-e,a1,a2];obtain⟨x,y,_⟩:=iw n1;exact⟨x,y⟩
 . rw[show c.1+c.2.1-t=c.1 by omega,<-e,a1,a2];obtain⟨x,y,_⟩:=iw (y9 n1);exact⟨x,y⟩
theorem yV (g:cT L C){t i:Int}(hi:AtT L C t i){c:CrG}(hc:aq C i=some c):(0≤t/\t<L.length)/\(0≤c.1+c.2.1-t/\c.1+c.2.1-t<L.length)/\(0≤c.1/\c.1<40/\0≤c.2.1/\c.2.1<40):=by obtain⟨d,c1,c2,c3,c4⟩:=hi.h;obtain rfl:=dk (c1.symm.trans hc);obtain⟨r1,r2,r3,_⟩:=Wc (g.rng d c2);have:=g.nL;unfold fL at c4;rw[eB,bX,bX]at c4;omega
theorem yX (hkk:400≤kk)(g:cT L C){t i:Int}(hi:AtT L C t i):f94 kk L C i t=some ((bN L C t i,()),()):=by obtain⟨c,c1,c2,c3,c4⟩:=hi.h;obtain⟨t1,t2,t3⟩:=yV g hi c1;obtain⟨p1,p2⟩:=gh (L:=L) t1.1 t1.2;obtain⟨q1,q2⟩:=gh (L:=L) t2.1 t2.2;unfold f94 bN;rw[p1,c1];simp only[aa];unfold f144;rw[aw (x:=c.1+c.2.1) (by omega) (by omega),aw (x:=c.1+c.2.1-t) (by omega) (by omega)];simp only[aa];rw[q1];simp only[aa];rw[mU hkk (g.pts _ p2) (g.pts _ q2)];rfl
end
def atF (t:Int):Nat->List CrG->List Int
 |_,[]=>[]
 |i,c::r=>if fL t c=true then(i:Int)::atF t (i+1) r else atF t (i+1) r
theorem uS {L:List PtG}{C:List CrG}{t:Int}:∀(r:List CrG)(i:Nat),C.drop i=r->∀x∈atF t i r,AtT L C t x/\(i:Int)≤x
 |[],i,h,x,hx=>by cases hx
 |c::r,i,h,x,hx=>by
  have ih:=uS (L:=L) (t:=t) r (i+1) (an h);have hl:=aK h;unfold atF at hx;split at hx
  . rename_i q;rcases aG.1 hx with rfl|hx
    . exact⟨⟨by omega,by omega,c,aE h,aX (aO h),by rw[bK];exact aO h,q⟩,jP _⟩
    . have:=ih x hx;exact⟨this.1,by omega⟩
  . have:=ih x hx;exact⟨this.1,by omega⟩
theorem Ab {C:List CrG}{t:Int}:∀(r:List CrG)(i:Nat),C.drop i=r->(atF t i r).Nodup
 |[],i,h=>nG
 |c::r,i,h=>by
  have ih:=Ab (t:=t) r (i+1) (an h);unfold atF;split
  . refine fC.2 ⟨λhx=> ?_,ih⟩;have:=(uS (L:=[]) r (i+1) (an h) _ hx).2;omega
  . exact ih
theorem yU {t:Int}:∀(r:List CrG)(i:Nat),(atF t i r).length≤r.length
 |[],_=>aM _
 |c::r,i=>by
  have:=yU (t:=t) r (i+1);unfold atF;split
  . simp only[ax];omega
  . simp only[ax];omega
section
variable {kk : Nat} {L : List PtG} {C : List CrG}
theorem yW (hC:C.length≤70)(t:Int):∀(r:List CrG)(i j:Nat)(acc:List Int){ρ:Type}(nx:((((Unit×Unit×Unit×Unit)×((List PtG×List CrG×Unit)×(Int×Unit)×(List Int)×Unit))->Option ρ)×Unit)),C.drop i=r->acc.length≤i->r.length+1≤j->
    mX kk j C (C.length:Int) (i:Int) L C t acc nx=nx.1 (((),(),(),()),((L,C,()),(t,()),acc++atF t i r,()))
 |[],i,j,acc,ρ,nx,h,ha,hj=>by
  obtain⟨j,rfl⟩:=aA hj;unfold mX atF;rw[aP h,ac,eO]
 |c::r,i,j,acc,ρ,nx,h,ha,hj=>by
  obtain⟨j,rfl⟩:=aA hj;have hl:=aK h;simp only[ax]at hj;have hr:decide ((acc.length+[(i:Int)].length)*8≤roomy)=true:=ai (by show(acc.length+1)*8≤140737488351232;omega);have ih1:=yW hC t r (i+1) j (acc++[(i:Int)]) nx (an h) (by rw[aV];simp only[ax,br];omega) (by omega);have ih2:=yW hC t r (i+1) j acc nx (an h) (by omega) (by omega);unfold mX atF fL;rw[aJ h,ab,aE h];simp only[aa];rw[hr,ak (by omega)]
  cases e1:c.1==t with
  |true=>
   simp only[ab,Bool.true_or,fI];rw[ih1,bL];rfl
  |false=>
   cases e2:c.2.1==t with
   |true=>
    simp only[ab,ac,Bool.or_true,fI];rw[ih1,bL];rfl
   |false=>simp only[ac,Bool.or_false,jg,iJ];exact ih2
def ltK (L:List PtG)(C:List CrG)(t x y:Int):Bool:=decide (bN L C t x<bN L C t y)
theorem Sy (t:Int):SWO (ltK L C t) where
 irrefl x:=by unfold ltK;simp
 trans x y z h1 h2:=by unfold ltK at*;simp only[bT]at*;omega
 ntrans x y z h1 h2:=by unfold ltK at*;simp only[decide_eq_false_iff_not]at*;omega
theorem Ua (g:cT L C)(t:Int)(k':Nat)(h:400≤k'):Cm k' (L,C) t (ltK L C t) (AtT L C t):=⟨λx y hx hy=>by
 have e1:=yX h g hx;have e2:=yX h g hy;unfold f92 ltK;rw[e1];simp only[aa];rw[e2];simp only[aa];unfold f93 f143;simp only[aa,dB,ac];by_cases q1:bN L C t x<bN L C t y
 . rw[ai q1];exact⟨-1,rfl,rfl⟩
 . rw[al q1,ac];by_cases q2:bN L C t x>bN L C t y
   . rw[ai q2];exact⟨1,rfl,rfl⟩
   . rw[al q2];exact⟨0,rfl,rfl⟩⟩
structure AtL (L:List PtG)(C:List CrG)(t:Int)(l:List Int):Prop where
 perm:l.Perm (atF t 0 C)
 st:l.Pairwise λx y=>bN L C t x<bN L C t y
theorem AtL.mem {t:Int}{l:List Int}(a:AtL L C t l){x:Int}(hx:x∈l):AtT L C t x:=(uS C 0 rfl x (a.perm.subset hx)).1
theorem AtL.unique {t:Int}{l l':List Int}(a:AtL L C t l)(b:AtL L C t l'):l=l':=
 List.Perm.eq_of_pairwise (le:=λx y=>bN L C t x<bN L C t y) (λx y _ _ h1 h2=>absurd h1 (by omega)) a.st b.st (a.perm.trans b.perm.symm)
theorem AtL.len {t:Int}{l:List Int}(a:AtL L C t l)(g:cT L C):l.length≤70:=by have:=yU (t:=t) C 0;have:=g.nC;rw[a.perm.length_eq];omega
theorem D7 (hkk:600≤kk)(g:cT L C)(hp:eM L [] C=true)(t:Int):∃l,f53 kk L C t=some (((),()),(l,()))/\AtL L C t l:=by
 have hC:=g.nC;have hn:=yU (t:=t) C 0;have hm:=λx hx=>(uS (L:=L) (t:=t) C 0 rfl x hx).1
 obtain⟨l,s1,s2,s3⟩:=TG (kk:=kk) (P:=(L,C)) (t:=t) hkk (λk' h=>Ua g t k' h) (Sy t) (atF t 0 C) (by omega) hm;refine⟨l,?_,s2,?_⟩
 . unfold f53;have:=yW (kk:=kk) (L:=L) hC t C 0 kk [] (ρ:=(Unit×Unit)×(List Int)×Unit) (λx18=>(f91 kk (x18.2.1.1,x18.2.1.2.1) x18.2.2.1.1 x18.2.2.2.1).bind λx19=>some (((),()),(x19.2.1,())),()) rfl (aM _) (by omega);rw[show((0:Nat):Int)=0 from rfl]at this;rw[this];dsimp only;rw[List.nil_append,s1];rfl
 . have nd:l.Nodup:=s2.nodup_iff.2 (Ab C 0 rfl);have both:=List.Pairwise.and s3 nd;refine both.imp_of_mem λ{x y} hx hy h=> ?_
   have h1:¬bN L C t y<bN L C t x:=by have:=h.1;unfold ltK at this;simpa using this
   have h2:bN L C t x≠bN L C t y:=λe=>h.2 (Ec g hp (hm _ (s2.subset hx)) (hm _ (s2.subset hy)) e)
   omega
theorem Hk (l:List Int)(n:Nat)(x:Int)(hn:n≤l.length)(hl:l.length≤1000):f83 kk l (n:Int) x=some (((),()),(l.take n++x::l.drop n,())):=by
 have hr:roomy=140737488351232:=rfl;have ht:(l.take n).length=n:=by rw[da];omega
 have hd:(l.drop n).length=l.length-n:=eV;unfold f83
 rw[r6,rZ,show(decide ((0:Nat)≤0)&&decide (0≤(n:Int))&&decide ((n:Int)≤(l.length:Int)))=true by rw[dle (show(0:Int)≤(n:Int) by omega),dle (show(n:Int)≤(l.length:Int) by omega)];rfl,ab,
  ai (p:=(([]:List Int).length+(l.take n).length)*8≤roomy) (by rw[ht,hr];simp only[br];omega),ab,
  ai (p:=(([]++l.take n:List Int).length+[x].length)*8≤roomy) (by rw[List.nil_append,ht,hr];simp only[ax,br];omega),ab,
  show(decide (0≤(n:Int))&&decide ((n:Int)≤(l.length:Int))&&decide ((l.length:Int)≤(l.length:Int)))=true by rw[dle (by omega),dle (by omega),dle (by omega)];rfl,ab,
  ai (p:=((([]++l.take n:List Int)++[x]).length+(l.drop n).length)*8≤roomy) (by rw[List.nil_append,aV,ht,hd,hr];simp only[ax,br];omega),ab]
 simp
theorem LX (P:qz)(t i:Int)(out D:List Int)(p:PtG)(q:PtG)(d:Int)(hD:D.length≤1000):∀(r:List Int)(a j:Nat){ρ:Type}(nx:_),D.drop a=r->r.length+1≤j->
    oT (ρ:=ρ) kk j P t i (a:Int) out D p.1.1 p.1.2.1 p.1.2.2 p.2.1 p.2.2.1 p.2.2.2 q.1.1 q.1.2.1 q.1.2.2 q.2.1 q.2.2.1 q.2.2.2 d nx=
     nx.1 ((P,t,(),(),i,(),((a+(r.takeWhile λy=>decide (y<d)).length:Nat):Int),()),(out,D,(p.1.1,p.1.2.1,p.1.2.2,p.2.1,p.2.2.1,p.2.2.2,q.1.1,q.1.2.1,q.1.2.2,q.2.1,q.2.2.1,q.2.2.2,d,()),()))
 |[],a,j,ρ,nx,h,hj=>by
  obtain⟨j,rfl⟩:=aA hj;unfold oT;rw[aP h];rfl
 |y::r,a,j,ρ,nx,h,hj=>by
  obtain⟨j,rfl⟩:=aA hj;have hl:=aK h;simp only[ax]at hj;unfold oT;rw[aJ h,ab,dle (show(0:Int)≤(a:Int) by omega),dL,ab,bK,aO h];simp only[aa];by_cases e:y<d
  . rw[ai e,ab,ak (by omega),LX P t i out D p q d hD r (a+1) j nx (an h) (by omega),List.takeWhile_cons_of_pos (by simpa using e),ax,show a+1+(r.takeWhile λy=>decide (y<d)).length=a+((r.takeWhile λy=>decide (y<d)).length+1) by omega]
  . rw[al e,ac,List.takeWhile_cons_of_neg (by simpa using e)];rfl
def uB (K:Int->Int)(l:List Int)(x:Int):List Int:=l.take (l.map K|>.takeWhile λy=>decide (y<K x)).length++x::l.drop (l.map K|>.takeWhile λy=>decide (y<K x)).length
theorem uC (K:Int->Int)(l:List Int)(x:Int):(uB K l x).Perm (l++[x]):=by unfold uB;refine List.perm_middle.trans ?_;rw[gJ];exact List.perm_append_comm (l₁:=[x])
theorem EU (K:Int->Int)(l:List Int)(x:Int):(uB K l x).map K=(l.map K).take (l.map K|>.takeWhile λy=>decide (y<K x)).length++K x::(l.map K).drop (l.map K|>.takeWhile λy=>decide (y<K x)).length:=by unfold uB;rw[gu,cR,List.map_take,List.map_drop]
theorem HJ {α:Type}(p:α->Bool):∀l:List α,l.take (l.takeWhile p).length=l.takeWhile p/\l.drop (l.takeWhile p).length=l.dropWhile p
 |[]=>⟨rfl,rfl⟩
 |y::l=>by
  have ih:=HJ p l;by_cases e:p y=true
  . rw[List.takeWhile_cons_of_pos e,List.dropWhile_cons_of_pos e];exact⟨by rw[ax,List.take_succ_cons,ih.1],by rw[ax,List.drop_succ_cons,ih.2]⟩
  . rw[List.takeWhile_cons_of_neg e,List.dropWhile_cons_of_neg e];exact⟨rfl,rfl⟩
theorem KY {α:Type}(p:α->Bool):∀{l:List α}{x:α},x∈l.takeWhile p->p x=true
 |y::l,x,h=>by
  by_cases e:p y=true
  . rw[List.takeWhile_cons_of_pos e]at h;rcases aG.1 h with rfl|h
    . exact e
    . exact KY p h
  . rw[List.takeWhile_cons_of_neg e]at h;cases h
theorem He {α:Type}(p:α->Bool):∀(l:List α){y:α}{r:List α},l.dropWhile p=y::r->p y=false
 |[],y,r,h=>by simp at h
 |z::l,y,r,h=>by
  by_cases e:p z=true
  . rw[List.dropWhile_cons_of_pos e]at h;exact He p l h
  . rw[List.dropWhile_cons_of_neg e]at h;injection h with h1 _;rw[<-h1];simpa using e
theorem FO (K:Int->Int)(l:List Int)(x:Int)(h:l.Pairwise λa b=>K a<K b)(hx:∀y∈l,K y≠K x):(uB K l x).Pairwise λa b=>K a<K b:=by
 rw[<-List.pairwise_map (f:=K) (R:=λa b=>a<b)]at h⊢;rw[EU];have hx':∀y∈l.map K,y≠K x:=λy hy=>by obtain⟨z,hz,rfl⟩:=eZ.1 hy;exact hx z hz
 generalize l.map K=m at*;obtain⟨t1,t2⟩:=HJ (λy=>decide (y<K x)) m;rw[t1,t2];rw[<-List.takeWhile_append_dropWhile (p:=λy=>decide (y<K x)) (l:=m)]at h;obtain⟨a1,a2,a3⟩:=List.pairwise_append.1 h;refine List.pairwise_append.2 ⟨a1,pT.2 ⟨λw hw=> ?_,a2⟩,λu hu w hw=> ?_⟩
 . cases e:m.dropWhile λy=>decide (y<K x)with
   |nil=>rw[e]at hw;cases hw
   |cons y r=>
    have hy:=He _ m e;have hy2:y≠K x:=hx' y ((List.dropWhile_sublist _).subset (by rw[e];exact bQ ..));have hy3:¬y<K x:=by simpa using hy
    rw[e]at hw a2;rcases aG.1 hw with rfl|hw
    . omega
    . have:=(pT.1 a2).1 w hw;omega
 . have hu2:u<K x:=by simpa using KY _ hu
   rcases aG.1 hw with rfl|hw
   . exact hu2
   . exact a3 u hu w hw
theorem wH (hkk:600≤kk)(g:cT L C)(hp:eM L [] C=true)(t:Int):∀(r:List CrG)(i j:Nat)(acc:List Int){ρ:Type}(nx:((((Unit×Unit)×((List Int)×Unit))->Option ρ)×Unit)),C.drop i=r->acc.length≤i->(∀x∈acc,AtT L C t x/\x<i)->acc.Pairwise (λx y=>bN L C t x<bN L C t y)->r.length+1≤j->
    ∃l,mW kk j (L,C) t (i:Int) acc (acc.map (bN L C t)) nx=nx.1 (((),()),(l,()))/\l.Perm (acc++atF t i r)/\l.Pairwise λx y=>bN L C t x<bN L C t y
 |[],i,j,acc,ρ,nx,h,ha,hm,hs,hj=>by
  obtain⟨j,rfl⟩:=aA hj;refine⟨acc,?_,by unfold atF;rw[eO],hs⟩;unfold mW;rw[aP h,ac]
 |c::r,i,j,acc,ρ,nx,h,ha,hm,hs,hj=>by
  obtain⟨j,rfl⟩:=aA hj;have hl:=aK h;have hC:=g.nC;simp only[ax]at hj;unfold mW;rw[aJ h,ab,aE h];simp only[aa];by_cases q:fL t c=true
  . have hat:AtT L C t (i:Int):=⟨by omega,by omega,c,aE h,aX (aO h),by rw[bK];exact aO h,q⟩;have new:∀y∈acc,bN L C t y≠bN L C t (i:Int):=λy hy e=>by have:=Ec g hp (hm y hy).1 hat e;have:=(hm y hy).2;omega
    obtain⟨t1,t2,t3⟩:=yV g hat (aE h);obtain⟨p1,p2⟩:=gh (L:=L) t1.1 t1.2;obtain⟨q1,q2⟩:=gh (L:=L) t2.1 t2.2;have hk:bN L C t (i:Int)=bS (aD (pt (atP L (c.1+c.2.1-t))) (pt (atP L t))):=by unfold bN;rw[aE h];rfl
    have j8:∀(nx':_),tZ (ρ:=ρ) kk (L,C) t (i:Int) acc (acc.map (bN L C t)) c.1 c.2.1 c.2.2 nx'=nx'.1 (((L,C),t,(),(),(i:Int),()),(uB (bN L C t) acc i,(uB (bN L C t) acc i).map (bN L C t),())):=by
     intro nx';unfold tZ f82;rw[p1,aw (x:=c.1+c.2.1) (by omega) (by omega),aw (x:=c.1+c.2.1-t) (by omega) (by omega)];simp only[aa];rw[q1];simp only[aa];rw[E4 (by omega) (g.pts _ p2) (g.pts _ q2)];simp only[aa];rw[<-hk];have sc:=LX (kk:=kk) (L,C) t (i:Int) acc (acc.map (bN L C t)) (atP L t) (atP L (c.1+c.2.1-t)) (bN L C t (i:Int)) (by rw[dJ];omega) (acc.map (bN L C t)) 0 kk (ρ:=ρ);rw[show((0:Nat):Int)=0 from rfl]at sc;rw[sc _ rfl (by rw[dJ];omega)];dsimp only;have hle:((acc.map (bN L C t)).takeWhile λy=>decide (y<bN L C t (i:Int))).length≤acc.length:=by have:=(List.takeWhile_sublist (l:=acc.map (bN L C t)) λy=>decide (y<bN L C t (i:Int))).length_le;rwa[dJ]at this
     rw[dc,Hk _ _ _ hle (by omega)];simp only[aa];rw[Hk _ _ _ (by rw[dJ];exact hle) (by rw[dJ];omega)];simp only[aa];rw[EU];rfl
    obtain⟨l,l1,l2,l3⟩:=wH hkk g hp t r (i+1) j (uB (bN L C t) acc i) nx (an h) (by rw[(uC _ _ _).length_eq,aV];simp only[ax,br];omega)
     (λx hx=>by
      rcases aC.1 ((uC _ _ _).subset hx)with q|q
      . have:=hm x q;exact⟨this.1,by omega⟩
      . rw[bG.1 q];exact⟨hat,by omega⟩) (FO _ _ _ hs new) (by omega)
    refine⟨l,?_,l2.trans ?_,l3⟩
    . unfold fL at q
      cases e1:c.1==t with
      |true=>
       rw[show(c.1 !=t)=false by simp[bne,e1],ac,j8];dsimp only;rw[ak (by omega)];exact l1
      |false=>rw[e1,hY]at q;rw[show(c.1 !=t)=true by simp[bne,e1],ab,show(c.2.1 !=t)=false by simp[bne,q],ac,j8];dsimp only;rw[ak (by omega)];exact l1
    . have ea:atF t i (c::r)=(i:Int)::atF t (i+1) r:=by rw[atF];exact ah q
      rw[ea];have:=(uC (bN L C t) acc i).append_right (atF t (i+1) r);rwa[bL]at this
  . obtain⟨l,l1,l2,l3⟩:=wH hkk g hp t r (i+1) j acc nx (an h) (by omega) (λx hx=>⟨(hm x hx).1,by have:=(hm x hx).2;omega⟩) hs (by omega);refine⟨l,?_,?_,l3⟩
    . have q':fL t c=false:=by simpa using q
      unfold fL at q';rw[Bool.or_eq_false_iff]at q';rw[show(c.1 !=t)=true by simp[bne,q'.1],ab,show(c.2.1 !=t)=true by simp[bne,q'.2],ab,ak (by omega)];exact l1
    . have ea:atF t i (c::r)=atF t (i+1) r:=by rw[atF];exact ae q
      rwa[ea]
theorem Sh (hkk:600≤kk)(g:cT L C)(hp:eM L [] C=true)(t:Int):∃l,f53 kk L C t=some (((),()),(l,()))/\f46 kk (L,C) t=some (((),()),(l,()))/\AtL L C t l:=by obtain⟨l,l1,l2⟩:=D7 (kk:=kk) hkk g hp t;have hC:=g.nC;obtain⟨m,m1,m2,m3⟩:=wH (kk:=kk) hkk g hp t C 0 kk [] (ρ:=(Unit×Unit)×(List Int)×Unit) (λx46=>some (((),()),(x46.2.1,())),()) rfl (aM _) (λx hx=>by cases hx) List.Pairwise.nil (by omega);rw[List.nil_append]at m2;refine⟨l,l1,?_,l2⟩;have:l=m:=l2.unique ⟨m2,m3⟩;subst this;exact m1
end
def brB (C:List CrG)(t:Int):Bool:=C.any λc=>c.2.2==1&&fL t c
theorem Gh {n:Nat}{C:List CrG}{R:List Int}(b:Brd n C)(h:Rnd n C R)(t:Int):t∈R↔brB C t=true:=by
 unfold brB;rw[oW];constructor
 . intro ht;have h2:=h.gw.two t ht;have hne:adj C t≠[]:=λe=>by rw[e]at h2;cases h2
   obtain⟨x,hx⟩:=List.exists_mem_of_ne_nil _ hne;unfold adj at hx;obtain⟨c,hc,hx⟩:=List.mem_flatMap.1 hx;refine⟨c,hc,?_⟩;unfold nbc at hx;unfold fL;split at hx
   . rename_i q;rw[q];split at hx
     . rename_i q;rw[q];simp
     . split at hx
       . rename_i q;rw[q];simp
       . cases hx
   . cases hx
 . rintro⟨c,hc,ht⟩;simp only[aH,bX]at ht;have e1:=wO h.gw.nd b;have e2:=wP h.gw.two;have e3:=(Fj R C).2 (by rw[<-e1,e2,h.len]) c hc ht.1;have:=ht.2;unfold fL at this;rw[eB,bX,bX]at this;rcases this with q|q
   . rw[<-q];exact e3.1
   . rw[<-q];exact e3.2
theorem AT {L:List PtG}{R:List Int}{t:Int}:t∈roundOf L R↔t∈R:=by
 unfold roundOf;split
 . exact pU
 . unfold uT;rw[aC,pU,<-aC,gJ];exact pU
section
variable {kk : Nat} {L : List PtG} {C : List CrG} {R : List Int}
theorem Ac (t:Int)(D:List CrG)(hD:D.length≤70):∀(r:List CrG)(i j:Nat){ρ:Type}(nx:(((Unit×Unit)->Option ρ)×(((Int×Unit)×Unit)->Option ρ)×Unit)),D.drop i=r->r.length+1≤j->
    ∃n:Nat,lX kk j D t (D.length:Int) (i:Int) nx=bif brB r t then nx.2.1 (((n:Int),()),())else nx.1 ((),())
 |[],i,j,ρ,nx,h,hj=>by
  obtain⟨j,rfl⟩:=aA hj;refine⟨0,?_⟩;unfold lX;rw[aP h];rfl
 |c::r,i,j,ρ,nx,h,hj=>by
  obtain⟨j,rfl⟩:=aA hj;have hl:=aK h;simp only[ax]at hj;obtain⟨n,ih⟩:=Ac t D hD r (i+1) j nx (an h) (by omega);unfold lX f96;rw[aJ h,ab,aE h];simp only[aa];rw[ak (by omega),ih];unfold brB fL;rw[List.any_cons]
  cases e1:c.2.2==1 with
  |false=>exact⟨n,rfl⟩
  |true=>
   cases e2:c.1==t with
   |true=>exact⟨i,rfl⟩
   |false=>
    cases e3:c.2.1==t with
    |true=>exact⟨i,rfl⟩
    |false=>exact⟨n,rfl⟩
theorem FF (hkk:400≤kk)(v:Valid L C R)(t:Int):f54 kk L C t=some ((decide (t∈roundOf L R),()),()):=by
 have hC:=v.g.nC;obtain⟨n,e⟩:=Ac (kk:=kk) t C hC C 0 kk (ρ:=(Int×Unit)×Unit) (λ_=>some (((-1),()),()),λx10=>some ((x10.1.1,()),()),()) rfl (by omega);rw[show((0:Nat):Int)=0 from rfl]at e;unfold f54 MZ IR;rw[e];have iff:=(AT (L:=L) (R:=R) (t:=t)).trans (Gh v.brd v.rnd t)
 cases q:brB C t with
 |true=>
  rw[ai (iff.2 q)];simp only[ab,aa];rw[ai (p:=(n:Int)≥0) (by omega)]
 |false=>rw[al (p:=t∈roundOf L R) (λh=>by rw[iff.1 h]at q;cases q)];rfl
end
def gk (x:Int):Bool:=decide (1≤x)&&decide (x≤16)
def vS (S:List Int):Bool:=decide (S.length≤16)&&(S.all gk&&S.sum==16)
section
variable {kk : Nat} {S : List Int}
theorem BC (hS:S.length≤70):∀(r:List Int)(i j:Nat)(a:Int){ρ:Type}(nx:(((((List Int)×Int×Unit)×Unit)->Option ρ)×(((Bool×Unit)×Unit)->Option ρ)×Unit)),S.drop i=r->0≤a->a≤16*i->r.length+1≤j->
    ot kk j S a (i:Int) nx=bif r.all gk then nx.1 ((S,a+r.sum,()),())else nx.2.1 ((false,()),())
 |[],i,j,a,ρ,nx,h,h0,h1,hj=>by
  obtain⟨j,rfl⟩:=aA hj;unfold ot;rw[aP h];simp
 |x::r,i,j,a,ρ,nx,h,h0,h1,hj=>by
  obtain⟨j,rfl⟩:=aA hj;have hl:=aK h;simp only[ax]at hj;unfold ot f45;rw[aJ h,ab,aE h];simp only[aa];rw[List.all_cons];by_cases q1:1≤x
  . rw[ai (p:=x≥1) q1,ab];simp only[aa];by_cases q2:x≤16
    . rw[ai q2,bi,ac,aw (x:=a+x) (by omega) (by omega),ak (by omega),BC hS r (i+1) j (a+x) nx (an h) (by omega) (by omega) (by omega),show gk x=true from by unfold gk;rw[ai q1,ai q2];rfl,bj,List.sum_cons,mJ]
    . rw[al q2,show gk x=false from by unfold gk;rw[al q2,Bool.and_false]];rfl
  . rw[al (p:=x≥1) q1,show gk x=false from by unfold gk;rw[al q1];rfl];rfl
theorem WK (hkk:400≤kk)(hS:S.length≤70):f139 kk S=some ((vS S,()),()):=by
 have:=BC (kk:=kk) hS S 0 kk 0 (ρ:=(Bool×Unit)×Unit) (λx13=>bif(decide ((x13.1.1.length:Int)≤16))then some (((x13.1.2.1==16),()),())else some ((false,()),()),λx14=>some ((x14.1.1,()),()),()) rfl (by omega) (by omega) (by omega);rw[show((0:Nat):Int)=0 from rfl]at this;unfold f139 vS;rw[this]
 cases S.all gk with
 |false=>simp
 |true=>
  simp only[ab,bj,kK];by_cases q:S.length≤16
  . rw[ai q,dle (by omega)];rfl
  . rw[al q,lK (by omega)];rfl
theorem AK (hS:S.length≤70):∀(r:List Int)(i j:Nat){ρ:Type}(nx:(((Unit×Unit)->Option ρ)×(((Int×Unit)×Unit)->Option ρ)×Unit)),S.drop i=r->r.length+1≤j->
    ∃n:Nat,oS kk j S (S.length:Int) (i:Int) nx=bif r.all gk then nx.1 ((),())else nx.2.1 (((n:Int),()),())
 |[],i,j,ρ,nx,h,hj=>by
  obtain⟨j,rfl⟩:=aA hj;refine⟨0,?_⟩;unfold oS;rw[aP h];rfl
 |x::r,i,j,ρ,nx,h,hj=>by
  obtain⟨j,rfl⟩:=aA hj;have hl:=aK h;simp only[ax]at hj;obtain⟨n,ih⟩:=AK hS r (i+1) j nx (an h) (by omega);unfold oS f229 f90;rw[aJ h,ab,aE h];simp only[aa];rw[ak (by omega),ih,List.all_cons];by_cases q1:1≤x
  . rw[ai (p:=x≥1) q1,ab];simp only[aa];by_cases q2:x≤16
    . rw[ai q2,show gk x=true from by unfold gk;rw[ai q1,ai q2];rfl];exact⟨n,rfl⟩
    . rw[al q2,show gk x=false from by unfold gk;rw[al q2,Bool.and_false]];exact⟨i,rfl⟩
  . rw[al (p:=x≥1) q1,show gk x=false from by unfold gk;rw[al q1];rfl];exact⟨i,rfl⟩
theorem Bw (hS:S.length≤70):∀(r:List Int)(i j:Nat)(a:Int){ρ:Type}(nx:((((Int×Unit)×Unit)->Option ρ)×Unit)),S.drop i=r->r.all gk=true->0≤a->a≤16*i->r.length+1≤j->
    oP kk j a S (S.length:Int) (i:Int) nx=nx.1 ((a+r.sum,()),())
 |[],i,j,a,ρ,nx,h,hr,h0,h1,hj=>by
  obtain⟨j,rfl⟩:=aA hj;unfold oP;rw[aP h];simp
 |x::r,i,j,a,ρ,nx,h,hr,h0,h1,hj=>by obtain⟨j,rfl⟩:=aA hj;have hl:=aK h;simp only[ax]at hj;rw[List.all_cons,aH]at hr;have hx:=hr.1;unfold gk at hx;simp only[aH,bT]at hx;unfold oP;rw[aJ h,ab,aE h];simp only[aa];rw[aw (x:=a+x) (by omega) (by omega),ak (by omega),Bw hS r (i+1) j (a+x) nx (an h) hr.2 (by omega) (by omega) (by omega),List.sum_cons,mJ]
theorem abL (hkk:400≤kk)(hS:S.length≤70):f201 kk S=some ((vS S,()),()):=by
 obtain⟨n,e⟩:=AK (kk:=kk) hS S 0 kk (ρ:=(Int×Unit)×Unit) (λ_=>some (((-1),()),()),λx9=>some ((x9.1.1,()),()),()) rfl (by omega);have e2:=λh=>Bw (kk:=kk) hS S 0 kk 0 (ρ:=(Int×Unit)×Unit) (λx7=>some ((x7.1.1,()),()),()) rfl h (by omega) (by omega) (by omega)
 rw[show((0:Nat):Int)=0 from rfl]at e e2;unfold f201 f228 f241 f230 vS;rw[e];by_cases q:S.length≤16
 . rw[ai q,dle (by omega),ab,bj]
   cases h:S.all gk with
   |false=>
    simp only[ac,aa];rw[ai (p:=(n:Int)≥0) (by omega)];rfl
   |true=>simp only[ab,aa];rw[al (p:=(-1:Int)≥0) (by omega),dK,ab,e2 h,kK];rfl
 . rw[al q,lK (by omega)];rfl
def kQ :Bool->List Int->Int
 |_,[]=>0
 |true,x::r=>x+kQ false r
 |false,x::r=> -x+kQ true r
theorem tI (hS:S.length≤70)(hin:∀x∈S,0≤x/\x≤16):∀(r:List Int)(i j:Nat)(a:Int){ρ:Type}(nx:((((Int×Unit)×Unit)->Option ρ)×Unit)),S.drop i=r-> -(16*i)≤a->a≤16*i->r.length+1≤j->
    mo kk j a S (S.length:Int) (i:Int) nx=nx.1 ((a+kQ (i%2==0) r,()),())
 |[],i,j,a,ρ,nx,h,h0,h1,hj=>by
  obtain⟨j,rfl⟩:=aA hj;unfold mo;rw[aP h];simp[kQ]
 |x::r,i,j,a,ρ,nx,h,h0,h1,hj=>by
  obtain⟨j,rfl⟩:=aA hj;have hl:=aK h;simp only[ax]at hj;have hx:=hin x (aX (aO h));unfold mo;rw[aJ h,ab,aE h];simp only[aa];rw[show(i:Int).tmod 2=((i%2:Nat):Int)from rfl,ak (by omega)];have i2:i%2=0\/i%2=1:=by omega
  rcases i2 with e|e
  . rw[e,show(((0:Nat):Int)==0)=true from rfl,ab,aw (x:=a+x) (by omega) (by omega),tI hS hin r (i+1) j (a+x) nx (an h) (by omega) (by omega) (by omega),show((i+1)%2==0)=false from jK.2 (by omega),show((0:Nat)==0)=true from rfl,show kQ true (x::r)=x+kQ false r from rfl,mJ]
  . rw[e,show(((1:Nat):Int)==0)=false from rfl,ac,aw (x:=a-x) (by omega) (by omega),tI hS hin r (i+1) j (a-x) nx (an h) (by omega) (by omega) (by omega),show((i+1)%2==0)=true from bX.2 (by omega),show((1:Nat)==0)=false from rfl,show kQ false (x::r)= -x+kQ true r from rfl,<-mJ,Int.sub_eq_add_neg]
theorem zZ (hS:S.length≤70)(hin:∀x∈S,0≤x/\x≤16):∀(n:Nat)(r:List Int)(i j:Nat)(a:Int){ρ:Type}(nx:((((Int×Unit)×Unit)->Option ρ)×Unit)),r.length=2*n->S.drop i=r-> -(16*i)≤a->a≤16*i->n+1≤j->
    oj kk j S a (i:Int) nx=nx.1 ((a+kQ true r,()),())
 |0,r,i,j,a,ρ,nx,hn,h,h0,h1,hj=>by
  obtain⟨j,rfl⟩:=aA hj;obtain rfl:r=[]:=lA.1 hn;unfold oj;rw[aP h];simp[kQ]
 |n+1,r,i,j,a,ρ,nx,hn,h,h0,h1,hj=>by
  obtain⟨j,rfl⟩:=aA hj
  match r,hn,h with
  |x::y::r,hn,h=>simp only[ax]at hn;have hl:=aK h;have h':=an h;have hl':=aK h';have hx:=hin x (aX (aO h));have hy:=hin y (aX (aO h'));unfold oj;rw[aJ h,ab,aE h,ak (by omega),aE h'];simp only[aa];rw[aw (x:=x-y) (by omega) (by omega),aw (x:=a+(x-y)) (by omega) (by omega),aw (x:=(i:Int)+2) (by omega) (by omega),show(i:Int)+2=((i+2:Nat):Int) by omega];rw[zZ hS hin n r (i+2) j (a+(x-y)) nx (by omega) (an h') (by omega) (by omega) (by omega)];rw[show a+(x-y)+kQ true r=a+kQ true (x::y::r)from by show _=a+(x+(-y+kQ true r));omega]
def EB (S:List Int):Bool:=vS S&&(S.length%2==0&&kQ true S==0)
theorem Se (h:vS S=true):∀x∈S,0≤x/\x≤16:=λx hx=>by unfold vS at h;simp only[aH]at h;have:=dj.1 h.2.1 x hx;unfold gk at this;simp only[aH,bT]at this;omega
theorem aaA (hkk:400≤kk)(hS:S.length≤70):f97 kk S=some ((EB S,()),()):=by
 unfold f97 f146 EB;rw[abL hkk hS];simp only[aa]
 cases hv:vS S with
 |false=>rfl
 |true=>
  simp only[bi,ac,bj];rw[show(S.length:Int).tmod 2=((S.length%2:Nat):Int)from rfl];have e:=tI (kk:=kk) hS (Se hv) S 0 kk 0 (ρ:=(Int×Unit)×Unit) (λx7=>some ((x7.1.1,()),()),()) rfl (by omega) (by omega) (by omega);rw[show((0:Nat):Int)=0 from rfl,kK]at e;have i2:S.length%2=0\/S.length%2=1:=by omega
  rcases i2 with q|q
  . rw[q,show(((0:Nat):Int)==1)=false from rfl,ac];unfold f202;rw[e];rfl
  . rw[q];rfl
theorem aaB (hkk:400≤kk)(hS:S.length≤70):f84 kk S=some ((EB S,()),()):=by
 unfold f84 f134 EB;rw[WK hkk hS];simp only[aa]
 cases hv:vS S with
 |false=>rfl
 |true=>
  simp only[bi,ac,bj];rw[show(S.length:Int).tmod 2=((S.length%2:Nat):Int)from rfl];have i2:S.length%2=0\/S.length%2=1:=by omega
  rcases i2 with q|q
  . have e:=zZ (kk:=kk) hS (Se hv) (S.length/2) S 0 kk 0 (ρ:=(Int×Bool×Unit)×Unit) (λx11=>some ((x11.1.1,true,()),()),()) (by omega) rfl (by omega) (by omega) (by omega);rw[show((0:Nat):Int)=0 from rfl,kK]at e;rw[q,show(((0:Nat):Int) !=0)=false from rfl,ac,e];rfl
  . rw[q];rfl
end
def dE (C:List CrG)(i:Int):Int:=match aq C i with
 |some c=>c.2.2
 |none=>0
section
variable {kk : Nat} {L : List PtG} {C : List CrG}
theorem WQ (hkk:400≤kk)(g:cT L C){a b:Int}(ha:0≤a/\a<L.length)(hb:0≤b/\b<L.length):f137 kk (L,C) a b=some ((aI (atP L a) (atP L b),()),()):=by obtain⟨p1,p2⟩:=gh (L:=L) ha.1 ha.2;obtain⟨q1,q2⟩:=gh (L:=L) hb.1 hb.2;obtain⟨rp,bp⟩:=cA (g.pts _ p2);obtain⟨rq,bq⟩:=cA (g.pts _ q2);obtain⟨u1,u2,u3,u4,u5,u6,h1,h2⟩:=qj (kk:=kk) hkk (by omega) rq rp (bq.mono (by omega)) (bp.mono (by omega));unfold f137 f126 f185;rw[q1];simp only[aa];rw[p1];simp only[aa];rw[h1,aa];dsimp only;rw[nM (N:=268435456) hkk (by omega) h2 ((bq.sub bp).mono (by omega)) (by omega) (by omega),aa];rfl
theorem xN (hkk:400≤kk)(g:cT L C)(t:Int)(l:List Int)(hl:l.length≤70)(hm:∀x∈l,AtT L C t x):∀(r:List Int)(i j:Nat)(acc:List Int){ρ:Type}(nx:((((Unit×Unit)×((List Int)×Unit))->Option ρ)×Unit)),l.drop i=r->acc.length≤i->r.length+1≤j->
    ov kk j t (l.length:Int) (i:Int) L C acc l nx=nx.1 (((),()),(acc++r.map (bN L C t),()))
 |[],i,j,acc,ρ,nx,h,ha,hj=>by
  obtain⟨j,rfl⟩:=aA hj;unfold ov;rw[aP h,ac,kJ,eO]
 |x::r,i,j,acc,ρ,nx,h,ha,hj=>by obtain⟨j,rfl⟩:=aA hj;have hi:=aK h;simp only[ax]at hj;have hr:decide ((acc.length+[bN L C t x].length)*8≤roomy)=true:=ai (by show(acc.length+1)*8≤140737488351232;omega);unfold ov;rw[aJ h,ab,dle (show(0:Int)≤(i:Int) by omega),dL,ab,bK,aO h];simp only[aa];rw[yX hkk g (hm x (aX (aO h)))];simp only[aa];rw[hr,ab,ak (by omega),xN hkk g t l hl hm r (i+1) j (acc++[bN L C t x]) nx (an h) (by rw[aV];simp only[ax,br];omega) (by omega),bL];rfl
theorem vY (t:Int)(l:List Int)(hl:l.length≤70)(hm:∀x∈l,AtT L C t x):∀(r:List Int)(i j:Nat)(acc:List Int){ρ:Type}(nx:((((Unit×Unit)×((List Int)×Unit))->Option ρ)×Unit)),l.drop i=r->acc.length≤i->r.length+1≤j->
    rP kk j (l.length:Int) (i:Int) L C acc l nx=nx.1 (((),()),(acc++r.map (dE C),()))
 |[],i,j,acc,ρ,nx,h,ha,hj=>by
  obtain⟨j,rfl⟩:=aA hj;unfold rP;rw[aP h,ac,kJ,eO]
 |x::r,i,j,acc,ρ,nx,h,ha,hj=>by
  obtain⟨j,rfl⟩:=aA hj;have hi:=aK h;simp only[ax]at hj;obtain⟨c,c1,_⟩:=(hm x (aX (aO h))).h;have hk:dE C x=c.2.2:=by unfold dE;rw[c1]
  have hr:decide ((acc.length+[c.2.2].length)*8≤roomy)=true:=ai (by show(acc.length+1)*8≤140737488351232;omega);unfold rP;rw[aJ h,ab,dle (show(0:Int)≤(i:Int) by omega),dL,ab,bK,aO h];simp only[aa];rw[c1];simp only[aa];rw[hr,ab,ak (by omega),vY t l hl hm r (i+1) j (acc++[c.2.2]) nx (an h) (by rw[aV];simp only[ax,br];omega) (by omega),bL,cR,hk];rfl
theorem xO (hkk:400≤kk)(g:cT L C)(t:Int)(l:List Int)(hl:l.length≤70)(hm:∀x∈l,AtT L C t x):∀(r:List Int)(i j:Nat)(acc:List Int){ρ:Type}(nx:((((Unit×Unit)×((List Int)×Unit))->Option ρ)×Unit)),l.drop i=r->acc.length≤i->r.length+1≤j->
    ol kk j (L,C) t (i:Int) acc l nx=nx.1 (((),()),(acc++r.map (bN L C t),()))
 |[],i,j,acc,ρ,nx,h,ha,hj=>by
  obtain⟨j,rfl⟩:=aA hj;unfold ol;rw[aP h,ac,kJ,eO]
 |x::r,i,j,acc,ρ,nx,h,ha,hj=>by
  obtain⟨j,rfl⟩:=aA hj;have hi:=aK h;simp only[ax]at hj;have hat:=hm x (aX (aO h));obtain⟨c,c1,_⟩:=hat.h;obtain⟨t1,t2,t3⟩:=yV g hat c1;have hk:bN L C t x=aI (atP L t) (atP L (c.1+c.2.1-t)):=by unfold bN;rw[c1]
  have hr:decide ((acc.length+[aI (atP L t) (atP L (c.1+c.2.1-t))].length)*8≤roomy)=true:=ai (by show(acc.length+1)*8≤140737488351232;omega);unfold ol f82;rw[aJ h,ab,dle (show(0:Int)≤(i:Int) by omega),dL,ab,bK,aO h];simp only[aa];rw[c1];simp only[aa];rw[aw (x:=c.1+c.2.1) (by omega) (by omega),aw (x:=c.1+c.2.1-t) (by omega) (by omega),WQ hkk g t1 t2];simp only[aa];rw[hr,ab,ak (by omega),xO hkk g t l hl hm r (i+1) j _ nx (an h) (by rw[aV];simp only[ax,br];omega) (by omega),bL,cR,hk];rfl
theorem vZ (t:Int)(l:List Int)(hl:l.length≤70)(hm:∀x∈l,AtT L C t x):∀(r:List Int)(i j:Nat)(acc:List Int){ρ:Type}(nx:((((Unit×Unit)×((List Int)×Unit))->Option ρ)×Unit)),l.drop i=r->acc.length≤i->r.length+1≤j->
    rO kk j (L,C) (i:Int) acc l nx=nx.1 (((),()),(acc++r.map (dE C),()))
 |[],i,j,acc,ρ,nx,h,ha,hj=>by
  obtain⟨j,rfl⟩:=aA hj;unfold rO;rw[aP h,ac,kJ,eO]
 |x::r,i,j,acc,ρ,nx,h,ha,hj=>by
  obtain⟨j,rfl⟩:=aA hj;have hi:=aK h;simp only[ax]at hj;obtain⟨c,c1,_⟩:=(hm x (aX (aO h))).h;have hk:dE C x=c.2.2:=by unfold dE;rw[c1]
  have hr:decide ((acc.length+[c.2.2].length)*8≤roomy)=true:=ai (by show(acc.length+1)*8≤140737488351232;omega);unfold rO;rw[aJ h,ab,dle (show(0:Int)≤(i:Int) by omega),dL,ab,bK,aO h];simp only[aa];rw[c1];simp only[aa];rw[hr,ab,ak (by omega),vZ t l hl hm r (i+1) j (acc++[c.2.2]) nx (an h) (by rw[aV];simp only[ax,br];omega) (by omega),bL,cR,hk];rfl
structure AtP (kk:Nat)(L:List PtG)(C:List CrG)(t:Int)(l:List Int):Prop where
 a:AtL L C t l
 cI:f53 kk L C t=some (((),()),(l,()))
 cS:f46 kk (L,C) t=some (((),()),(l,()))
 dI:f147 kk L C t=some (((),()),(l.map (bN L C t),()))
 dS:f135 kk (L,C) t=some (((),()),(l.map (bN L C t),()))
 kI:f99 kk L C t=some (((),()),(l.map (dE C),()))
 kS:f86 kk (L,C) t=some (((),()),(l.map (dE C),()))
theorem TV (hkk:600≤kk)(g:cT L C)(hp:eM L [] C=true)(t:Int):∃l,AtP kk L C t l:=by
 obtain⟨l,e1,e2,a⟩:=Sh (kk:=kk) hkk g hp t;have hl:=a.len g;have hm:=λx hx=>a.mem (x:=x) hx
 refine⟨l,a,e1,e2,?_,?_,?_,?_⟩
 . have:=xN (kk:=kk) (by omega) g t l hl hm l 0 kk [] (ρ:=(Unit×Unit)×(List Int)×Unit) (λx21=>some (((),()),(x21.2.1,())),()) rfl (aM _) (by omega);unfold f147;rw[e1];exact this
 . have:=xO (kk:=kk) (by omega) g t l hl hm l 0 kk [] (ρ:=(Unit×Unit)×(List Int)×Unit) (λx21=>some (((),()),(x21.2.1,())),()) rfl (aM _) (by omega);unfold f135;rw[e2];exact this
 . have:=vY (kk:=kk) t l hl hm l 0 kk [] (ρ:=(Unit×Unit)×(List Int)×Unit) (λx21=>some (((),()),(x21.2.1,())),()) rfl (aM _) (by omega);unfold f99;rw[e1];exact this
 . have:=vZ (kk:=kk) t l hl hm l 0 kk [] (ρ:=(Unit×Unit)×(List Int)×Unit) (λx21=>some (((),()),(x21.2.1,())),()) rfl (aM _) (by omega);unfold f86;rw[e2];exact this
end
structure Up (D:List Int):Prop where
 st:D.Pairwise (· < ·)
 rg:∀x∈D,0≤x/\x<16
theorem Up.len {D:List Int}(u:Up D):D.length≤16:=by
 have:=j9 D (upto 16) (u.st.imp λh e=>by omega) λx hx=>j6.2 (u.rg x hx)
 rwa[mA]at this
def ke (d0:Int):List Int->List Int
 |[]=>[]
 |[x]=>[d0+16-x]
 |x::y::r=>(y-x)::ke d0 (y::r)
def je (D:List Int):List Int:=ke (D.headD 0) D
theorem xg (d0:Int):∀D,(ke d0 D).length=D.length
 |[]=>rfl
 |[x]=>rfl
 |x::y::r=>by unfold ke;rw[ax,xg d0 (y::r)];rfl
theorem E3 (d0:Int):∀(r:List Int)(x:Int),(ke d0 (x::r)).sum=d0+16-x
 |[],x=>by simp[ke]
 |y::r,x=>by unfold ke;rw[List.sum_cons,E3 d0 r y];omega
theorem E2 (d0:Int)(h0:0≤d0):∀(D:List Int),D.Pairwise (· < ·)->(∀x∈D,d0≤x/\x<16)->(ke d0 D).all gk=true
 |[],_,_=>rfl
 |[x],_,h=>by
  have:=h x (by simp);unfold ke gk;simp only[List.all_cons,List.all_nil,oZ,aH,bT];omega
 |x::y::r,hs,h=>by have hx:=h x (by simp);have hy:=h y (by simp);have hxy:=(pT.1 hs).1 y (by simp);unfold ke;rw[List.all_cons,E2 d0 h0 (y::r) (pT.1 hs).2 λz hz=>h z (bk _ hz)];unfold gk;simp only[oZ,aH,bT];omega
theorem JD {D:List Int}(u:Up D)(hne:D≠[]):vS (je D)=true:=by
 match D,u,hne with
 |x::r,u,_=>
  have hl:=u.len;unfold vS je
  rw[xg,ai hl,E3,show(x::r).headD 0=x from rfl,E2 x (u.rg x (by simp)).1 _ u.st λz hz=>⟨by
   rcases aG.1 hz with rfl|hz
   . exact jP _
   . exact kL ((pT.1 u.st).1 z hz),(u.rg z hz).2⟩]
  simp only[bj];exact bX.2 (by omega)
section
variable {kk : Nat} {D : List Int}
theorem uJ (u:Up D)(d0:Int)(h0:D≠[]->aq D 0=some d0/\0≤d0/\d0<16):∀(r:List Int)(i j:Nat)(acc:List Int){ρ:Type}(nx:((((Unit×Unit)×((List Int)×Unit))->Option ρ)×Unit)),D.drop i=r->acc.length≤i->r.length+1≤j->
    lY kk j D D (D.length:Int) (i:Int) acc nx=nx.1 (((),()),(acc++ke d0 r,()))
 |[],i,j,acc,ρ,nx,h,ha,hj=>by
  obtain⟨j,rfl⟩:=aA hj;unfold lY;rw[aP h,ac,show ke d0 []=[]from rfl,eO]
 |x::r,i,j,acc,ρ,nx,h,ha,hj=>by
  obtain⟨j,rfl⟩:=aA hj;have hi:=aK h;have hl:=u.len;have hx:=u.rg x (aX (aO h));simp only[ax]at hj;obtain⟨e0,b0,b1⟩:=h0 (λe=>by rw[e]at hi;cases hi);have hr:∀z:Int,decide ((acc.length+[z].length)*8≤roomy)=true:=λz=>ai (by show(acc.length+1)*8≤140737488351232;omega)
  unfold lY;rw[aJ h,ab,aE h];simp only[aa];rw[e0];simp only[aa];rw[ak (by omega)]
  match r,h,hj with
  |[],h,hj=>
   rw[aP (an h),ac,hr,ab,aw (x:=d0+16) (by omega) (by omega),aw (x:=d0+16-x) (by omega) (by omega),uJ u d0 h0 [] (i+1) j (acc++[d0+16-x]) nx (an h) (by rw[aV];simp only[ax,br];omega) (by simp only[br];omega)];simp[ke]
  |y::r,h,hj=>have hy:=u.rg y (aX (aO (an h)));rw[aJ (an h),ab,aE (an h)];simp only[aa];rw[hr,ab,aw (x:=y-x) (by omega) (by omega),uJ u d0 h0 (y::r) (i+1) j (acc++[y-x]) nx (an h) (by rw[aV];simp only[ax,br];omega) (by omega),bL];rfl
theorem M6 {D:List Int}(u:Up D):D≠[]->aq D 0=some (D.headD 0)/\0≤D.headD 0/\D.headD 0<16:=λhne=>by
 match D,u,hne with
 |x::r,u,_=>exact⟨rfl,u.rg x (by simp)⟩
theorem TA (hkk:400≤kk)(u:Up D):f148 kk D=some (((),()),(je D,())):=by have hl:=u.len;have:=uJ (kk:=kk) u (D.headD 0) (M6 u) D 0 kk [] (ρ:=(Unit×Unit)×(List Int)×Unit) (λx20=>some (((),()),(x20.2.1,())),()) rfl (aM _) (by omega);exact this
def tS :Int->List Int->List Int
 |_,[]=>[]
 |p,y::r=>(y-p)::tS y r
def qe :Int->List Int->Int
 |p,[]=>p
 |_,y::r=>qe y r
theorem Bm (d0:Int):∀(r:List Int)(x:Int),ke d0 (x::r)=tS x r++[d0+16-qe x r]
 |[],x=>rfl
 |y::r,x=>by unfold ke tS qe;rw[Bm d0 r y];rfl
theorem AN :∀(r:List Int)(x:Int),(x::r)[r.length]? =some (qe x r)
 |[],x=>rfl
 |y::r,x=>by rw[ax,List.getElem?_cons_succ,AN r y];rfl
theorem AO :∀(r:List Int)(x:Int),qe x r∈x::r
 |[],x=>by simp[qe]
 |y::r,x=>bk _ (AO r y)
theorem Eb :∀(r:List Int)(x:Int),(tS x r).length=r.length
 |[],_=>rfl
 |y::r,x=>by unfold tS;rw[ax,Eb r y];rfl
theorem vR (u:Up D):∀(r:List Int)(i j:Nat){ρ:Type}(nx:(((Unit×Unit)->Option ρ)×(((Bool×Unit)×Unit)->Option ρ)×Unit)),D.drop i=r->r.length+1≤j->mc kk j D (i:Int) nx=nx.1 ((),())
 |[],i,j,ρ,nx,h,hj=>by
  obtain⟨j,rfl⟩:=aA hj;unfold mc;rw[aP h,ac]
 |x::r,i,j,ρ,nx,h,hj=>by
  obtain⟨j,rfl⟩:=aA hj;have hi:=aK h;have hl:=u.len;have hx:=u.rg x (aX (aO h));simp only[ax]at hj;have ih:=vR u r (i+1) j nx (an h) (by omega);unfold mc f45;rw[aJ h,ab,aE h];simp only[aa];rw[ai (p:=x≥0) hx.1,ab];simp only[aa];rw[ai (p:=x≤15) (by omega),bi,ac,ak (by omega)];by_cases q:i=0
  . rw[al (p:=(i:Int)>0) (by omega),ac];exact ih
  . have hp:i-1<D.length:=by omega
    rw[ai (p:=(i:Int)>0) (by omega),ab,wrm (by omega) (by omega),cO,aL hp];simp only[aa];have lt:=vE.1 u.st (i-1) i hp hi (by omega);have e:D[i]=x:=by have:=aO h;rw[aL hi]at this;exact dk this
    rw[e]at lt;rw[al (p:=x≤D[i-1]) (by omega),ac];exact ih
theorem Bn (u:Up D):∀(r:List Int)(i j:Nat)(p:Int)(acc:List Int){ρ:Type}(nx:(((((List Int)×Unit×Unit)×((List Int)×Unit))->Option ρ)×Unit)),1≤i->D.drop i=r->D[i-1]? =some p->acc.length≤i->r.length+1≤j->
    om kk j D (i:Int) acc nx=nx.1 ((D,(),()),(acc++tS p r,()))
 |[],i,j,p,acc,ρ,nx,h1,h,hp,ha,hj=>by
  obtain⟨j,rfl⟩:=aA hj;unfold om;rw[aP h,ac,show tS p []=[]from rfl,eO]
 |x::r,i,j,p,acc,ρ,nx,h1,h,hp,ha,hj=>by
  obtain⟨j,rfl⟩:=aA hj;have hi:=aK h;have hl:=u.len;have hx:=u.rg x (aX (aO h));have hq:=u.rg p (aX hp);simp only[ax]at hj;unfold om;rw[aJ h,ab,aE h,wrm h1 (by omega),cO,hp];simp only[aa]
  rw[aw (x:=x-p) (by omega) (by omega),ai (p:=(acc.length+[x-p].length)*8≤roomy) (by show(acc.length+1)*8≤140737488351232;omega),ab,ak (by omega),
   Bn u r (i+1) j x (acc++[x-p]) nx (by omega) (an h) (by rw[Nat.add_sub_cancel];exact aO h) (by rw[aV];simp only[ax,br];omega) (by omega),bL]
  rfl
theorem O5 (hkk:400≤kk)(u:Up D):∃b,f136 kk D=some (((),b,()),(je D,())):=by
 have hl:=u.len
 match D,u,hl with
 |[],u,hl=>exact⟨false,rfl⟩
 |x::r,u,hl=>have hx:=u.rg x (by simp);have hz:=u.rg _ (AO r x);simp only[ax]at hl;have e1:=vR (kk:=kk) u (x::r) 0 kk (ρ:=(Bool×Unit)×Unit) (λ_=>some ((true,()),()),λx10=>some ((x10.1.1,()),()),()) rfl (by simp only[ax];omega);have e2:=Bn (kk:=kk) u r 1 kk x [] (ρ:=(Unit×Bool×Unit)×(List Int)×Unit) (λx16=>(aq x16.1.1 0).bind λx17=>(aq x16.1.1 (wr .i64 ((x16.1.1.length:Int)-1))).bind λx18=>bif decide ((x16.2.1.length+[(wr .i64 ((wr .i64 (x17+16))-x18))].length)*8≤roomy)then some (((),true,()),((x16.2.1++[(wr .i64 ((wr .i64 (x17+16))-x18))]),()))else none,()) (aM _) rfl rfl (eC _) (by omega);rw[show((0:Nat):Int)=0 from rfl]at e1;rw[show((1:Nat):Int)=1 from rfl]at e2;refine⟨true,?_⟩;unfold f136 f190;rw[show((((x::r).length:Nat):Int)==0)=false from jK.2 (by simp only[ax];omega),ac,e1];simp only[aa,bi,ac];rw[e2];dsimp only;rw[show aq (x::r) 0=some x from rfl];simp only[aa];rw[wrm (by simp only[ax];omega) (by simp only[ax];omega),show(x::r).length-1=r.length from rfl,cO,AN];simp only[aa];rw[aw (x:=x+16) (by omega) (by omega),aw (x:=x+16-qe x r) (by omega) (by omega),ai (p:=(([]++tS x r:List Int).length+[x+16-qe x r].length)*8≤roomy) (by rw[List.nil_append,Eb];show(r.length+1)*8≤140737488351232;omega),ab];unfold je;rw[show(x::r).headD 0=x from rfl,Bm];rfl
end
def cnt (k:Int)(X:List Int):Nat:=X.countP (· ==k)
section
variable {kk : Nat} {K : List Int}
theorem tN (hK:K.length≤70)(k:Int):∀(r:List Int)(i j:Nat)(a:Nat){ρ:Type}(nx:((((Int×Unit)×Unit)->Option ρ)×Unit)),K.drop i=r->a≤i->r.length+1≤j->
    lZ kk j k (a:Int) K (K.length:Int) (i:Int) nx=nx.1 ((((a+cnt k r:Nat):Int),()),())
 |[],i,j,a,ρ,nx,h,ha,hj=>by
  obtain⟨j,rfl⟩:=aA hj;unfold lZ;rw[aP h];rfl
 |x::r,i,j,a,ρ,nx,h,ha,hj=>by
  obtain⟨j,rfl⟩:=aA hj;have hi:=aK h;simp only[ax]at hj;unfold lZ cnt;rw[aJ h,ab,aE h];simp only[aa];rw[ak (i:=i) (by omega),ak (i:=a) (by omega),List.countP_cons]
  cases e:x==k with
  |true=>rw[ab,tN hK k r (i+1) j (a+1) nx (an h) (by omega) (by omega),ah rfl,show a+(List.countP (· ==k) r+1)=a+1+cnt k r from by unfold cnt;omega]
  |false=>rw[ac,tN hK k r (i+1) j a nx (an h) (by omega) (by omega),ae (by simp)];rfl
theorem Ha (hkk:400≤kk)(hK:K.length≤70)(k:Int):f153 kk K k=some (((cnt k K:Int),()),()):=by have:=tN (kk:=kk) hK k K 0 kk 0 (ρ:=(Int×Unit)×Unit) (λx8=>some ((x8.1.1,()),()),()) rfl (aM _) (by omega);rw[dc]at this;exact this
theorem Kr (k:Int)(X:List Int):cnt k X≤X.length:=List.countP_le_length
def wW (X:List Int):Int:=if(cnt 2 X:Int)-cnt 3 X<0 then-((cnt 2 X:Int)-cnt 3 X)else(cnt 2 X:Int)-cnt 3 X
theorem ZK {x:Int}(h: -1000≤x/\x≤1000):f152 kk x=some (((if x<0 then-x else x),()),()):=by
 unfold f152;dsimp only;rw[aw (by omega) (by omega)];by_cases q:x<0
 . rw[ai (p:=0-x>x) (by omega),ah q,ab,show 0-x= -x by omega]
 . rw[al (p:=0-x>x) (by omega),ae q];rfl
theorem KJ (hkk:400≤kk)(hK:K.length≤70):f101 kk K=some ((wW K,()),()):=by have h2:=Kr 2 K;have h3:=Kr 3 K;unfold f101 wW;rw[Ha hkk hK,Ha hkk hK];simp only[aa];rw[aw (by omega) (by omega),ZK (by omega)];rfl
def tal :List Int->Int
 |[]=>0
 |x::r=>(if x=2 then 1 else-1)+tal r
theorem xj (hK:K.length≤70):∀(r:List Int)(i j:Nat)(a:Int){ρ:Type}(nx:((((Int×Unit)×Unit)->Option ρ)×Unit)),K.drop i=r-> -(i:Int)≤a->a≤i->r.length+1≤j->
    pz kk j K a (i:Int) nx=nx.1 ((a+tal r,()),())
 |[],i,j,a,ρ,nx,h,h0,h1,hj=>by
  obtain⟨j,rfl⟩:=aA hj;unfold pz;rw[aP h];simp[tal]
 |x::r,i,j,a,ρ,nx,h,h0,h1,hj=>by
  obtain⟨j,rfl⟩:=aA hj;have hi:=aK h;simp only[ax]at hj;unfold pz tal;rw[aJ h,ab,aE h];simp only[aa];rw[ak (by omega)];by_cases e:x=2
  . rw[show(x==2)=true from bX.2 e,ab,ah e,aw (x:=a+1) (by omega) (by omega),xj hK r (i+1) j (a+1) nx (an h) (by omega) (by omega) (by omega),mJ]
  . rw[show(x==2)=false from jK.2 e,ac,ae e,aw (x:=a-1) (by omega) (by omega),xj hK r (i+1) j (a-1) nx (an h) (by omega) (by omega) (by omega),show a-1+tal r=a+(-1+tal r) by omega]
theorem Md (hkk:400≤kk)(hK:K.length≤70):f87 kk K=some ((tal K,()),()):=by have:=xj (kk:=kk) hK K 0 kk 0 (ρ:=(Int×Unit)×Unit) (λx6=>some ((x6.1.1,()),()),()) rfl (by omega) (by omega) (by omega);rw[kK]at this;exact this
theorem zT :∀{X:List Int},(∀x∈X,x=2\/x=3)->tal X=(cnt 2 X:Int)-cnt 3 X/\cnt 2 X+cnt 3 X=X.length
 |[],_=>⟨rfl,rfl⟩
 |x::r,h=>by
  obtain⟨e1,e2⟩:=zT (X:=r) λy hy=>h y (bk _ hy)
  rw[show tal (x::r)=(if x=2 then 1 else-1)+tal r from rfl];unfold cnt at*;rw[List.countP_cons,List.countP_cons,ax];rcases h x (bQ ..)with rfl|rfl
  . simp;omega
  . simp;omega
theorem AJ (hK:K.length≤70)(x:Int):∀(r:List Int)(i j:Nat){ρ:Type}(nx:(((Unit×Unit)->Option ρ)×(((Int×Unit)×Unit)->Option ρ)×Unit)),K.drop i=r->r.length+1≤j->
    ∃n:Nat,ow kk j K x (K.length:Int) (i:Int) nx=bif decide (x∈r)then nx.2.1 (((n:Int),()),())else nx.1 ((),())
 |[],i,j,ρ,nx,h,hj=>by
  obtain⟨j,rfl⟩:=aA hj;refine⟨0,?_⟩;unfold ow;rw[aP h];simp
 |y::r,i,j,ρ,nx,h,hj=>by
  obtain⟨j,rfl⟩:=aA hj;have hi:=aK h;simp only[ax]at hj;obtain⟨n,ih⟩:=AJ hK x r (i+1) j nx (an h) (by omega);unfold ow;rw[aJ h,ab,aE h];simp only[aa];rw[ak (by omega),ih];by_cases e:x=y
  . rw[show(x==y)=true from bX.2 e,ai (p:=x∈y::r) (by rw[e];exact bQ ..)];exact⟨i,rfl⟩
  . rw[show(x==y)=false from jK.2 e,show decide (x∈y::r)=decide (x∈r)from jL.2 ⟨λh=>(aG.1 h).resolve_left e,bk _⟩];exact⟨n,rfl⟩
theorem Ku (hkk:400≤kk)(hK:K.length≤70)(x:Int):f100 kk K x=some ((decide (x∈K),()),()):=by
 obtain⟨n,e⟩:=AJ (kk:=kk) hK x K 0 kk (ρ:=(Int×Unit)×Unit) (λ_=>some (((-1),()),()),λx9=>some ((x9.1.1,()),()),()) rfl (by omega);rw[show((0:Nat):Int)=0 from rfl]at e;unfold f100 f150;rw[e];by_cases q:x∈K
 . rw[ai q];simp only[ab,aa];rw[ai (p:=(n:Int)≥0) (by omega)]
 . rw[al q];rfl
def EH (K:List Int):Bool:= !decide (4∈K)&&wW K==2
theorem Sz (hK:∀x∈K,x=2\/x=3\/x=4)(h4:4∉K):(wW K==2)=(tal K==2||tal K== -2):=by
 obtain⟨e,_⟩:=zT (X:=K) λx hx=>by
  rcases hK x hx with q|q|q
  . exact .inl q
  . exact .inr q
  . exact absurd (q▸hx) h4
 rw[Bool.eq_iff_iff];simp only[eB,bX];unfold wW;rw[<-e];split<;>omega
end
def rd (S:List Int)(i:Nat):Int:=(S[i%S.length]?).getD 0
structure Run (S:List Int)(f c:Nat):Prop where
 c1:1≤c
 c2:c+1≤S.length
 eq:∀m,1≤m->m<c->rd S (f+m)=rd S f
 ne:rd S (f+c)≠rd S f
theorem Jy {S:List Int}{i:Nat}(h:i<S.length):rd S i=S[i]:=by unfold rd;rw[jM h,aL h];rfl
theorem nj {S:List Int}{i:Nat}(h:0<S.length):aq S ((i%S.length:Nat):Int)=some (rd S i):=by have:=gM i h;unfold rd;rw[cO,aL this];rfl
theorem Wf {S:List Int}{f:Nat}(hf:f<S.length)(h:rd S (f+S.length-1)≠rd S f):∃c,Run S f c:=by
 have h2:2≤S.length:=by
  rcases dy S.length 2 with q|q
  . have e:S.length=1:=by omega
    rw[e]at h;exact absurd rfl h
  . exact q
 have key:∀(n m:Nat),S.length-1-m=n->1≤m->m+1≤S.length->(∀k,1≤k->k<m->rd S (f+k)=rd S f)->∃c,Run S f c:=by
  intro n
  induction n with
  |zero=>
   intro m hm h1 h2 h3;exact⟨m,h1,h2,h3,by rw[show f+m=f+S.length-1 by omega];exact h⟩
  |succ n ih=>
   intro m hm h1 h2 h3;by_cases q:rd S (f+m)=rd S f
   . refine ih (m+1) (by omega) (by omega) (by omega) λk k1 k2=> ?_
     by_cases e:k=m
     . rw[e];exact q
     . exact h3 k k1 (by omega)
   . exact⟨m,h1,h2,h3,q⟩
 exact key _ 1 rfl (aM _) h2 λk k1 k2=>by omega
section
variable {kk : Nat} {S : List Int}
theorem LS (hS:S.length≤70){f c:Nat}(hf:f<S.length)(R:Run S f c):∀(n m j:Nat){ρ:Type}(nx:((((List Int)×Int×Int×Int×Unit)×Unit)->Option ρ)×Unit),c-m=n->1≤m->m≤c->n+1≤j->
    lV kk j S (f:Int) (S.length:Int) (m:Int) nx=nx.1 ((S,(f:Int),(S.length:Int),(c:Int),()),()):=by
 intro n
 induction n with
 |zero=>
  intro m j ρ nx hn h1 h2 hj;obtain⟨j,rfl⟩:=aA hj;obtain rfl:m=c:=by omega
  have hc:=R.c2;unfold lV;rw[al (p:=(S.length:Int)=0) (by omega),ac,wra (by omega),show((f+m:Nat):Int).tmod (S.length:Int)=(((f+m)%S.length:Nat):Int)from rfl,nj (by omega)];simp only[aa];rw[cO,aL hf,<-Jy hf];simp only[aa];rw[show(rd S (f+m)==rd S f)=false from jK.2 R.ne];rfl
 |succ n ih=>intro m j ρ nx hn h1 h2 hj;obtain⟨j,rfl⟩:=aA hj;have hc:=R.c2;unfold lV;rw[al (p:=(S.length:Int)=0) (by omega),ac,wra (by omega),show((f+m:Nat):Int).tmod (S.length:Int)=(((f+m)%S.length:Nat):Int)from rfl,nj (by omega)];simp only[aa];rw[cO,aL hf,<-Jy hf];simp only[aa];rw[show(rd S (f+m)==rd S f)=true from bX.2 (R.eq m h1 (by omega)),ab,ak (by omega)];exact ih (m+1) j nx (by omega) (by omega) (by omega) (by omega)
theorem LR (hS:S.length≤70){f c:Nat}(hf:f<S.length)(R:Run S f c)(y:Int)(hy:y=rd S f)(z:List Int)(a b:Int)(acc:List CrG):∀(n m j:Nat){ρ:Type}(nx:(((((List Int)×Int×Unit×Int×Int×Int×(List Int)×Int×Int×Unit)×((List CrG)×Unit))->Option ρ)×Unit)),c-m=n->1≤m->m≤c->n+1≤j->
    oc kk j S (S.length:Int) (f:Int) y (m:Int) z a b acc nx=nx.1 ((S,(S.length:Int),(),(f:Int),y,(c:Int),z,a,b,()),(acc,())):=by
 intro n
 induction n with
 |zero=>
  intro m j ρ nx hn h1 h2 hj;obtain⟨j,rfl⟩:=aA hj;obtain rfl:m=c:=by omega
  have hc:=R.c2;unfold oc;rw[dlt (show(m:Int)<(S.length:Int) by omega),ab,al (p:=(S.length:Int)=0) (by omega),ac,wra (by omega),show((f+m:Nat):Int).tmod (S.length:Int)=(((f+m)%S.length:Nat):Int)from rfl,nj (by omega)];simp only[aa];rw[show(rd S (f+m)==y)=false from jK.2 (by rw[hy];exact R.ne)];rfl
 |succ n ih=>intro m j ρ nx hn h1 h2 hj;obtain⟨j,rfl⟩:=aA hj;have hc:=R.c2;unfold oc;rw[dlt (show(m:Int)<(S.length:Int) by omega),ab,al (p:=(S.length:Int)=0) (by omega),ac,wra (by omega),show((f+m:Nat):Int).tmod (S.length:Int)=(((f+m)%S.length:Nat):Int)from rfl,nj (by omega)];simp only[aa];rw[show(rd S (f+m)==y)=true from bX.2 (by rw[hy];exact R.eq m h1 (by omega)),ab,ak (by omega)];exact ih (m+1) j nx (by omega) (by omega) (by omega) (by omega)
def qS (n:Nat)(x:CrG):Prop:=∃f c:Nat,x.1=(f:Int)/\x.2.1=(c:Int)/\f<n/\1≤c/\c+1≤n
theorem uI (hkk:400≤kk)(hS:S.length≤70):∀(r:List Int)(i j:Nat)(acc:List CrG),S.drop i=r->acc.length≤i->r.length+1≤j->
    ∃X:List CrG,(∀x∈X,qS S.length x)/\X.length≤r.length/\(∀{ρ:Type}(nx:((((Unit×Unit)×((List CrG)×Unit))->Option ρ)×Unit)),ld kk j S (i:Int) acc nx=nx.1 (((),()),(acc++X,())))/\
     ∀{ρ:Type}(nx:((((Unit×Unit)×((List CrG)×Unit))->Option ρ)×Unit)),gA kk j S (S.length:Int) S (S.length:Int) (i:Int) acc nx=nx.1 (((),()),(acc++X,()))
 |[],i,j,acc,h,ha,hj=>by
  obtain⟨j,rfl⟩:=aA hj;refine⟨[],λx hx=>(by cases hx),aM _,λnx=> ?_,λnx=> ?_⟩
  . unfold ld;rw[aP h,ac,eO]
  . unfold gA;rw[aP h,ac,eO]
 |x::r,i,j,acc,h,ha,hj=>by
  obtain⟨j,rfl⟩:=aA hj;have hi:=aK h;simp only[ax]at hj;have ex:rd S i=x:=by rw[Jy hi];have:=aO h;rw[aL hi]at this;exact dk this
  have ep:aq S (((i+S.length-1)%S.length:Nat):Int)=some (rd S (i+S.length-1)):=nj (by omega);obtain⟨X0,k1,k2,k3,k4⟩:=uI hkk hS r (i+1) j acc (an h) (by omega) (by omega);have wS:(wr .i64 ((wr .i64 ((i:Int)+(S.length:Int)))-1)).tmod (S.length:Int)=(((i+S.length-1)%S.length:Nat):Int):=by rw[wra (by omega),wrm (by omega) (by omega)];rfl
  have startS:f140 kk S (i:Int)=bif(decide (rd S (i+S.length-1)≤x))then some ((0,()),())else lV kk kk S (i:Int) (S.length:Int) 1 (λx25:(((List Int)×Int×Int×Int×Unit)×Unit)=>
        bif decide (x25.1.2.2.1=0)then none else
         let x26:Int:=((wr .i64 (x25.1.2.1+x25.1.2.2.2.1)).tmod x25.1.2.2.1)
         (aq x25.1.1 x26).bind λx27=>(aq x25.1.1 x25.1.2.1).bind λx28=>bif(decide (x27<x28))then some ((0,()),())else some ((x25.1.2.2.2.1,()),()),()):=by
   unfold f140;dsimp only;rw[al (p:=(S.length:Int)=0) (by omega),ac,wS,ep,aE h];rfl
  by_cases q:rd S (i+S.length-1)≤x
  . refine⟨X0,k1,by simp only[ax];omega,λnx=> ?_,λnx=> ?_⟩
    . unfold ld;rw[aJ h,ab,startS,ai q,ab];simp only[aa];rw[al (p:=(0:Int)>0) (by omega),ac,ak (by omega)];exact k3 nx
    . unfold gA;dsimp only;rw[aJ h,ab,aE h];simp only[aa];rw[al (p:=(S.length:Int)=0) (by omega),ac,wS,ep];simp only[aa];rw[ai q,ab,ak (by omega)];exact k4 nx
  . obtain⟨c,R⟩:=Wf hi (by rw[ex];omega);have hc1:=R.c1;have hc2:=R.c2;have hne:=R.ne;rw[ex]at hne;have l1:=λ{ρ:Type} nx=>LS (kk:=kk) (ρ:=ρ) hS hi R (c-1) 1 kk nx rfl (aM _) hc1 (by omega)
    rw[show((1:Nat):Int)=1 from rfl]at l1;have wc:(wr .i64 ((i:Int)+(c:Int))).tmod (S.length:Int)=(((i+c)%S.length:Nat):Int):=by rw[wra (by omega)];rfl
    have eSp:f140 kk S (i:Int)=some (((if rd S (i+c)<x then 0 else(c:Int)),()),()):=by
     rw[startS,al q,ac,l1];dsimp only;rw[al (p:=(S.length:Int)=0) (by omega),ac,wc,nj (by omega),aE h];simp only[aa];by_cases q2:rd S (i+c)<x
     . rw[ai q2,ah q2];rfl
     . rw[al q2,ae q2];rfl
    have eIm:∀{ρ:Type}(nx:((((Unit×Unit)×((List CrG)×Unit))->Option ρ)×Unit)),gA kk (j+1) S (S.length:Int) S (S.length:Int) (i:Int) acc nx=if rd S (i+c)<x then gA kk j S (S.length:Int) S (S.length:Int) ((i+1:Nat):Int) acc nx else gA kk j S (S.length:Int) S (S.length:Int) ((i+1:Nat):Int) (acc++[((i:Int),((c:Int),x))]) nx:=by
     intro ρ nx;have li:=λnx'=>LR (kk:=kk) (ρ:=ρ) hS hi R x ex.symm S (S.length:Int) (i:Int) acc (c-1) 1 kk nx' rfl (aM _) hc1 (by omega)
     rw[show((1:Nat):Int)=1 from rfl]at li;rw[gA.eq_2];dsimp only;rw[aJ h,ab,aE h];simp only[aa];rw[al (p:=(S.length:Int)=0) (by omega),ac,wS,ep];simp only[aa];rw[al q,ac,li];dsimp only;rw[al (p:=(S.length:Int)=0) (by omega),ac,wc,nj (by omega)];simp only[aa];rw[ak (by omega)];by_cases q2:rd S (i+c)<x
     . rw[ah q2,al (p:=rd S (i+c)>x) (by omega),ac]
     . rw[ae q2,ai (p:=rd S (i+c)>x) (by omega),ab,ai (p:=(acc.length+[((i:Int),((c:Int),x))].length)*24≤roomy) (by show(acc.length+1)*24≤140737488351232;omega),ab]
    by_cases q2:rd S (i+c)<x
    . rw[ah q2]at eSp;refine⟨X0,k1,by simp only[ax];omega,λnx=> ?_,λnx=> ?_⟩
      . unfold ld;rw[aJ h,ab,eSp];simp only[aa];rw[al (p:=(0:Int)>0) (by omega),ac,ak (by omega)];exact k3 nx
      . rw[eIm,ah q2];exact k4 nx
    . rw[ae q2]at eSp;obtain⟨X1,m1,m2,m3,m4⟩:=uI hkk hS r (i+1) j (acc++[((i:Int),((c:Int),x))]) (an h) (by rw[aV];simp only[ax,br];omega) (by omega);refine⟨((i:Int),((c:Int),x))::X1,λy hy=> ?_,by simp only[ax];omega,λnx=> ?_,λnx=> ?_⟩
      . rcases aG.1 hy with rfl|hy
        . exact⟨i,c,rfl,rfl,hi,hc1,hc2⟩
        . exact m1 y hy
      . unfold ld;rw[aJ h,ab,eSp];simp only[aa];rw[ai (p:=(c:Int)>0) (by omega),ab,aE h];simp only[aa];rw[ai (p:=(acc.length+[((i:Int),((c:Int),x))].length)*24≤roomy) (by show(acc.length+1)*24≤140737488351232;omega),ab,ak (by omega),m3 nx,bL];rfl
      . rw[eIm,ae q2,m4 nx,bL];rfl
end
def gR (K:List Int)(f m:Nat):List Int:=(List.range m).map λi=>rd K (f+i)
theorem TR {K:List Int}{f m:Nat}(hf:f<K.length)(hm:m≤K.length):(K.drop f++K.take f).take m=gR K f m:=by
 refine r9 λi=> ?_
 unfold gR;rw[iF];by_cases hi:i<m
 . rw[List.getElem?_take_of_lt hi,List.getElem?_range hi];simp only[Option.map_some];unfold rd;by_cases q:f+i<K.length
   . rw[gI (by rw[eV];omega),nz,jM q,aL q];rfl
   . have e:(f+i)%K.length=f+i-K.length:=by rw[Nat.mod_eq_sub_mod (by omega),jM (by omega)]
     rw[jJ (by rw[eV];omega),eV,List.getElem?_take_of_lt (by omega),e,show i-(K.length-f)=f+i-K.length by omega,aL (show f+i-K.length<K.length by omega)];rfl
 . rw[iE (by rw[da];omega),iE (by rw[List.length_range];omega)];rfl
theorem Pv {K:List Int}{f m:Nat}(h:0<K.length){x:Int}(hx:x∈gR K f m):x∈K:=by unfold gR at hx;obtain⟨i,_,rfl⟩:=eZ.1 hx;have:=gM (f+i) h;unfold rd;rw[aL this];exact pV _
theorem tj (K:List Int)(f m:Nat):(gR K f m).length=m:=by unfold gR;simp
def su (K:List Int)(x:CrG):Bool:=wW (gR K x.1.toNat (x.2.1.toNat+1))==((x.2.1.toNat+1)%2:Nat)
section
variable {kk : Nat} {K : List Int}
theorem Jj (n f m:Nat)(a b:Int)(hn:0<n)(hn2:n≤70)(hf:f<n)(hm:m≤n):∀(q i j:Nat)(acc:List Int){ρ:Type}(nx:((((Unit×Unit)×((List Int)×Unit))->Option ρ)×Unit)),m-i=q->i≤m->acc=(List.range i).map (λi=>(((f+i)%n:Nat):Int))->q+1≤j->
    oB kk j (n:Int) (m:Int) (i:Int) (f:Int) a b acc nx=nx.1 (((),()),((List.range m).map (λi=>(((f+i)%n:Nat):Int)),())):=by
 intro q
 induction q with
 |zero=>
  intro i j acc ρ nx hq hi ha hj;obtain⟨j,rfl⟩:=aA hj;obtain rfl:i=m:=by omega
  unfold oB;rw[eJ (by omega),ac,ha]
 |succ q ih=>
  intro i j acc ρ nx hq hi ha hj;obtain⟨j,rfl⟩:=aA hj;have hl:acc.length=i:=by rw[ha];simp
  unfold oB
  rw[dlt (by omega),ab,al (p:=(n:Int)=0) (by omega),ac,wra (by omega),show((f+i:Nat):Int).tmod (n:Int)=(((f+i)%n:Nat):Int)from rfl,
   ai (p:=(acc.length+[(((f+i)%n:Nat):Int)].length)*8≤roomy) (by show(acc.length+1)*8≤140737488351232;omega),ab,ak (by omega)]
  exact ih (i+1) j _ nx (by omega) (by omega) (by rw[ha,List.range_succ,gu];rfl) (by omega)
theorem vN (hK:0<K.length)(hK2:K.length≤70)(f:Nat)(I:List Int)(hI:I.length≤70)(hm:∀i,i<I.length->I[i]? =some (((f+i)%K.length:Nat):Int)):∀(r:List Int)(i j:Nat)(acc:List Int){ρ:Type}(nx:((((Unit×Unit)×((List Int)×Unit))->Option ρ)×Unit)),I.drop i=r->i≤I.length->acc=gR K f i->r.length+1≤j->
    oA kk j K I (I.length:Int) (i:Int) acc nx=nx.1 (((),()),(gR K f I.length,()))
 |[],i,j,acc,ρ,nx,h,hi,ha,hj=>by
  obtain⟨j,rfl⟩:=aA hj;have:=jB h;unfold oA;rw[aP h,ac,ha];rw[show i=I.length by omega]
 |x::r,i,j,acc,ρ,nx,h,_,ha,hj=>by
  obtain⟨j,rfl⟩:=aA hj;have hi:=aK h;simp only[ax]at hj;have hl:acc.length=i:=by rw[ha];exact tj K f i
  have e:x=(((f+i)%K.length:Nat):Int):=dk ((aO h).symm.trans (hm i hi));unfold oA;rw[aJ h,ab,aE h];simp only[aa];rw[e,nj hK];simp only[aa];rw[ai (p:=(acc.length+[rd K (f+i)].length)*8≤roomy) (by show(acc.length+1)*8≤140737488351232;omega),ab,ak (by omega)];exact vN hK hK2 f I hI hm r (i+1) j _ nx (an h) (by omega) (by rw[ha];unfold gR;rw[List.range_succ,gu];rfl) (by omega)
theorem TW (hkk:400≤kk)(hK2:K.length≤70){x:CrG}(g:qS K.length x):f105 kk x.1 x.2.1 x.2.2 K=some ((su K x,()),()):=by
 obtain⟨f,c,e1,e2,h1,h2,h3⟩:=g;have hK:0<K.length:=by omega
 unfold f105 f52 f156 f155;simp only[aa];rw[e1,e2,ak (by omega)];have a1:=Jj (kk:=kk) K.length f (c+1) (c:Int) x.2.2 hK hK2 h1 (by omega) (c+1) 0 kk [] (ρ:=(Unit×Unit)×(List Int)×Unit) (λx15=>some (((),()),(x15.2.1,())),()) rfl (by omega) rfl (by omega);rw[show((0:Nat):Int)=0 from rfl]at a1;rw[a1];simp only[aa];have hI:((List.range (c+1)).map λi=>(((f+i)%K.length:Nat):Int)).length=c+1:=by simp
 have a2:=vN (kk:=kk) hK hK2 f ((List.range (c+1)).map λi=>(((f+i)%K.length:Nat):Int)) (by rw[hI];omega) (λi hi=>by
  rw[hI]at hi
  rw[iF,List.getElem?_range hi];rfl) _ 0 kk [] (ρ:=(Unit×Unit)×(List Int)×Unit) (λx15=>some (((),()),(x15.2.1,())),()) rfl (by omega) rfl (by rw[List.drop_zero,hI];omega)
 rw[show((0:Nat):Int)=0 from rfl,hI]at a2;rw[hI,a2];simp only[aa];rw[KJ hkk (by rw[tj];omega)];simp only[aa];unfold su;rw[e1,e2,bK,bK];rfl
theorem Wd {f:Nat}(hf:f<K.length)(hK2:K.length≤70):f89 kk K (f:Int)=some (((),()),(K.drop f++K.take f,())):=by
 have hd:(K.drop f).length=K.length-f:=eV;have ht:(K.take f).length=f:=by rw[da];omega
 unfold f89 f138
 rw[rZ,r6,dle (show(0:Int)≤(f:Int) by omega),dle (show(f:Int)≤(K.length:Int) by omega),dle (show(K.length:Int)≤(K.length:Int) by omega),dL,dL,ab,
  ai (p:=(([]:List Int).length+(K.drop f).length)*8≤roomy) (by rw[hd];show(0+(K.length-f))*8≤140737488351232;omega),ab]
 simp only[aa,List.nil_append];rw[show(decide ((0:Nat)≤0)&&true&&true)=true from rfl,ab,ai (p:=((K.drop f).length+(K.take f).length)*8≤roomy) (by rw[hd,ht];show(K.length-f+f)*8≤140737488351232;omega),ab]
theorem M5 (hK:∀x∈K,x=2\/x=3)(h0:0<K.length){x:CrG}{f c:Nat}(e1:x.1=(f:Int))(e2:x.2.1=(c:Int)):(c%2=1->su K x=decide (tal (gR K f (c+1))=0))/\(c%2=0->su K x=decide (tal (gR K f (c+1))=1\/tal (gR K f (c+1))= -1)):=by
 obtain⟨e,e'⟩:=zT (X:=gR K f (c+1)) λy hy=>hK y (Pv h0 hy)
 unfold su;rw[e1,e2,bK,bK];unfold wW;rw[<-e,tj]at*;rw[<-e];constructor
 . intro q;rw[show(c+1)%2=0 by omega,Bool.eq_iff_iff];simp only[bX,bT];split<;>omega
 . intro q;rw[show(c+1)%2=1 by omega,Bool.eq_iff_iff];simp only[bX,bT];split<;>omega
theorem AR (hkk:400≤kk)(hK:∀x∈K,x=2\/x=3)(hK2:K.length≤70)(X:List CrG)(hX:X.length≤70)(hg:∀x∈X,qS K.length x):∀(r:List CrG)(i j:Nat){ρ:Type}(nx:(((Unit×Unit)->Option ρ)×(((Bool×Unit)×Unit)->Option ρ)×Unit)),X.drop i=r->r.length+1≤j->
    iX kk j (i:Int) K X nx=bif r.all (su K)then nx.1 ((),())else nx.2.1 ((false,()),())
 |[],i,j,ρ,nx,h,hj=>by
  obtain⟨j,rfl⟩:=aA hj;unfold iX;rw[aP h];rfl
 |x::r,i,j,ρ,nx,h,hj=>by
  obtain⟨j,rfl⟩:=aA hj;have hi:=aK h;simp only[ax]at hj;have ih:=AR hkk hK hK2 X hX hg r (i+1) j nx (an h) (by omega);obtain⟨f,c,e1,e2,h1,h2,h3⟩:=hg x (aX (aO h));obtain⟨g1,g2⟩:=M5 hK (by omega) e1 e2;have hl:(K.drop f++K.take f).length=K.length:=by rw[aV,eV,da];omega
  have wl:(gR K f (c+1)).length=c+1:=tj _ _ _;unfold iX;rw[aJ h,ab,dle (show(0:Int)≤(i:Int) by omega),dL,ab,bK,aO h];simp only[aa,ab];rw[e1,Wd h1 hK2];simp only[aa];rw[e2,ak (show c<_ by omega),dle (show(0:Int)≤((c+1:Nat):Int) by omega),dle (show((c+1:Nat):Int)≤((K.drop f++K.take f).length:Int) by rw[hl];omega),dL,ab,bK,TR h1 (by omega),Md hkk (by rw[wl];omega)];simp only[aa];rw[ak (by omega),ih,List.all_cons,show(c:Int).tmod 2=((c%2:Nat):Int)from rfl];have c2:c%2=0\/c%2=1:=by omega
  generalize tal (gR K f (c+1))=n at*;rcases c2 with q|q
  . rw[g2 q,q,show(((0:Nat):Int)==1)=false from rfl,show(((0:Nat):Int)==0)=true from rfl,ac,ab];by_cases n1:n=1
    . rw[show(n !=1)=false by rw[n1];rfl,ai (p:=n=1\/n= -1) (.inl n1)];rfl
    . rw[show(n !=1)=true from bne_iff_ne.2 n1,ab];by_cases n2:n= -1
      . rw[show(n !=(-1))=false by rw[n2];rfl,ai (p:=n=1\/n= -1) (.inr n2)];rfl
      . rw[show(n !=(-1))=true from bne_iff_ne.2 n2,al (p:=n=1\/n= -1) (λh=>h.elim n1 n2)];rfl
  . rw[g1 q,q,show(((1:Nat):Int)==1)=true from rfl,show(((1:Nat):Int)==0)=false from rfl,ab,ac];by_cases n0:n=0
    . rw[show(n !=0)=false by rw[n0];rfl,ai n0];rfl
    . rw[show(n !=0)=true from bne_iff_ne.2 n0,al n0];rfl
theorem AQ (hkk:400≤kk)(hK2:K.length≤70)(X:List CrG)(hX:X.length≤70)(hg:∀x∈X,qS K.length x):∀(r:List CrG)(i j:Nat){ρ:Type}(nx:(((Unit×Unit)->Option ρ)×(((Int×Unit)×Unit)->Option ρ)×Unit)),X.drop i=r->r.length+1≤j->
    ∃n:Nat,oz kk j X K (X.length:Int) (i:Int) nx=bif r.all (su K)then nx.1 ((),())else nx.2.1 (((n:Int),()),())
 |[],i,j,ρ,nx,h,hj=>by
  obtain⟨j,rfl⟩:=aA hj;refine⟨0,?_⟩;unfold oz;rw[aP h];rfl
 |x::r,i,j,ρ,nx,h,hj=>by
  obtain⟨j,rfl⟩:=aA hj;have hi:=aK h;simp only[ax]at hj;obtain⟨n,ih⟩:=AQ hkk hK2 X hX hg r (i+1) j nx (an h) (by omega);unfold oz f104;rw[aJ h,ab,aE h];simp only[aa];rw[TW hkk hK2 (hg x (aX (aO h)))];simp only[aa];rw[ak (by omega),ih,List.all_cons]
  cases su K x with
  |true=>exact⟨n,rfl⟩
  |false=>exact⟨i,rfl⟩
end
section
variable {kk : Nat} {L : List PtG} {C : List CrG} {R : List Int}
theorem Nb (v:Valid L C R){t:Int}{l:List Int}(a:AtL L C t l)(hb:t∉roundOf L R):∀x∈l.map (dE C),x=2\/x=3\/x=4:=λx hx=>by
 obtain⟨i,hi,rfl⟩:=eZ.1 hx;obtain⟨c,c1,c2,c3,c4⟩:=(a.mem hi).h;obtain⟨_,_,_,r4,r5⟩:=Wc (v.g.rng c c2);unfold dE;rw[c1];have:c.2.2≠1:=λe=>hb (AT.2 ((Gh v.brd v.rnd t).2 (oW.2 ⟨c,c2,by rw[e,c4];rfl⟩)))
 dsimp only;omega
theorem Sm (g:cT L C){t:Int}{l:List Int}(a:AtL L C t l):Up (l.map (bN L C t)):=
 ⟨List.pairwise_map.2 a.st,λx hx=>by obtain⟨i,hi,rfl⟩:=eZ.1 hx;exact H2 g (a.mem hi)⟩
theorem LM (v:Valid L C R):(roundOf L R).length≤40:=by
 have h1:=v.rnd.gw.len;have h2:=v.g.nL;unfold roundOf;split
 . rw[eU];omega
 . unfold uT;rw[aV,eU,da,eV,eU];omega
abbrev fr :=Int×(Int×(Bool×(Bool×(Bool×Bool))))
theorem Bc (hkk:600≤kk)(v:Valid L C R)(t:Int):∃p:fr,p.1=t/\f35 kk L C t=some (((p.1,p.2.1,p.2.2.1,p.2.2.2.1,p.2.2.2.2.1,p.2.2.2.2.2,()),()),())/\
    f33 kk (L,C) (roundOf L R) t=some (((p.1,p.2.1,p.2.2.1,p.2.2.2.1,p.2.2.2.2.1,p.2.2.2.2.2,()),()),()):=by
 obtain⟨l,A⟩:=TV (kk:=kk) hkk v.g v.plan t;have hl:=A.a.len v.g;have hr:=LM v;have hb:=FF (kk:=kk) (by omega) v t;have hh:=ya (kk:=kk) (roundOf L R) t (by omega) (by omega);have hkl:(l.map (dE C)).length≤70:=by rw[dJ];exact hl
 by_cases q:t∈roundOf L R
 . rw[ai q]at hb hh;refine⟨(t,((l.length:Int),(false,(true,(true,true))))),rfl,?_,?_⟩
   . unfold f35 f52 f55 f56 f57;rw[A.cI,hb,A.kI];rfl
   . unfold f33 f48 f49 f50;rw[A.cS,hh];rfl
 . rw[al q]at hb hh;have U:=Sm v.g A.a;have sl:(je (l.map (bN L C t))).length=l.length:=by unfold je;rw[xg,dJ]
   have eI:f98 kk L C t=some (((),()),(je (l.map (bN L C t)),())):=by unfold f98;rw[A.dI,hb];simp only[aa,dK,ab];rw[TA (by omega) U];rfl
   have eS:f85 kk (L,C) (roundOf L R) t=some (((),()),(je (l.map (bN L C t)),())):=by obtain⟨b,e⟩:=O5 (kk:=kk) (by omega) U;unfold f85;rw[A.dS,hh];simp only[aa,dK,ab];rw[e];rfl
   have k1:=aaA (kk:=kk) (S:=je (l.map (bN L C t))) (by omega) (by rw[sl];exact hl);have k2:=aaB (kk:=kk) (S:=je (l.map (bN L C t))) (by omega) (by rw[sl];exact hl);have ki:=Nb v A.a q;have c4:=Ku (kk:=kk) (K:=l.map (dE C)) (by omega) hkl 4;have h4:=ya (kk:=kk) (l.map (dE C)) 4 (by omega) (by omega);have t1:=Md (kk:=kk) (K:=l.map (dE C)) (by omega) hkl;have x1:=KJ (kk:=kk) (K:=l.map (dE C)) (by omega) hkl
   have mI:f56 kk L C t=some ((EH (l.map (dE C)),()),()):=by
    unfold f56 EH;rw[A.kI,hb];simp only[aa,ac];rw[c4];simp only[aa]
    cases decide (4∈l.map (dE C))with
    |true=>rfl
    |false=>simp only[dK,ab];rw[x1];rfl
   have mS:f49 kk (L,C) (roundOf L R) t=some ((EH (l.map (dE C)),()),()):=by
    unfold f49 EH;rw[hh];simp only[aa,ac];rw[A.kS];simp only[aa];rw[t1,h4];simp only[aa];by_cases m4:4∈l.map (dE C)
    . rw[ai m4];rfl
    . rw[al m4,Sz ki m4];simp only[dK,ab,bj];cases tal (l.map (dE C))==2<;>rfl
   have lit:∃b,f57 kk L C t=some ((b,()),())/\f50 kk (L,C) (roundOf L R) t=some ((b,()),()):=by
    unfold f57 f50;rw[hb,hh];simp only[aa,ac];rw[A.kI,A.kS];simp only[aa];rw[c4,h4];simp only[aa];by_cases m4:4∈l.map (dE C)
    . rw[ai m4];exact⟨false,rfl,rfl⟩
    . rw[al m4];simp only[dK,ab,ac];rw[eI,eS];simp only[aa]
      have k23:∀x∈l.map (dE C),x=2\/x=3:=λx hx=>by
       rcases ki x hx with e|e|e
       . exact .inl e
       . exact .inr e
       . exact absurd (e▸hx) m4
      obtain⟨X,g1,g2,g3,g4⟩:=uI (kk:=kk) (S:=je (l.map (bN L C t))) (by omega) (by rw[sl];exact hl) (je (l.map (bN L C t))) 0 kk [] rfl (aM _) (by rw[sl];omega);have hX:X.length≤70:=by rw[sl]at g2;omega
      have r1:f103 kk (je (l.map (bN L C t)))=some (((),()),(X,())):=g4 (ρ:=(Unit×Unit)×(List CrG)×Unit) (λx51=>some (((),()),(x51.2.1,())),())
      have r2:f88 kk (je (l.map (bN L C t)))=some (((),()),(X,())):=by
       unfold f88;rw[WK (by omega) (by rw[sl];exact hl)];simp only[aa];by_cases e:l=[]
       . subst e;have:X=[]:=lA.1 (by rw[sl]at g2;exact Nat.le_zero.1 g2);subst this
         cases vS (je (List.map (bN L C t) []))with
         |false=>rfl
         |true=>exact g3 (ρ:=(Unit×Unit)×(List CrG)×Unit) (λx11=>some (((),()),(x11.2.1,())),())
       . rw[JD U (λh=>e (List.map_eq_nil_iff.1 h))];exact g3 (ρ:=(Unit×Unit)×(List CrG)×Unit) (λx11=>some (((),()),(x11.2.1,())),())
      have gr:∀x∈X,qS (l.map (dE C)).length x:=λx hx=>by rw[dJ,<-sl];exact g1 x hx
      rw[r1,r2];simp only[aa];obtain⟨n,e1⟩:=AQ (kk:=kk) (K:=l.map (dE C)) (by omega) hkl X hX gr X 0 kk (ρ:=(Int×Unit)×Unit) (λ_=>some (((-1),()),()),λx10=>some ((x10.1.1,()),()),()) rfl (by omega);have e2:=AR (kk:=kk) (K:=l.map (dE C)) (by omega) k23 hkl X hX gr X 0 kk (ρ:=(Bool×Unit)×Unit) (λ_=>some ((true,()),()),λx28=>some ((x28.1.1,()),()),()) rfl (by omega);rw[show((0:Nat):Int)=0 from rfl]at e1 e2;unfold f102 f154;rw[e1,e2]
      cases X.all (su (l.map (dE C)))with
      |true=>exact⟨true,rfl,rfl⟩
      |false=>refine⟨false,?_,rfl⟩;simp only[ac,aa];rw[ai (p:=(n:Int)≥0) (by omega)];rfl
   obtain⟨b,lI,lS⟩:=lit;refine⟨(t,((l.length:Int),(true,(EB (je (l.map (bN L C t))),(EH (l.map (dE C)),b))))),rfl,?_,?_⟩
   . unfold f35 f52 f55;rw[A.cI,hb,eI,mI,lI];simp only[aa,ac];rw[k1];rfl
   . unfold f33 f48;rw[A.cS,hh,eS,mS,lS];simp only[aa,ac];rw[k2];rfl
end
section
variable {kk : Nat}
theorem Jr :∀(n i j:Nat)(m:Nat)(l:List PtG){ρ:Type}(nx:((((Int×Unit)×((List PtG)×Unit))->Option ρ)×Unit)),l.length-i=n->l.length≤1048576->m≤6*i+1->i≤l.length->n+1≤j->
    ∃l',rE kk j (m:Int) (i:Int) l nx=nx.1 ((((m+6*n:Nat):Int),()),(l',())):=by
 intro n
 induction n with
 |zero=>
  intro i j m l ρ nx hn hl hm hi hj;obtain⟨j,rfl⟩:=aA hj;refine⟨l,?_⟩;unfold rE;rw[eJ (by omega)];rfl
 |succ n ih=>
  intro i j m l ρ nx hn hl hm hi hj;obtain⟨j,rfl⟩:=aA hj;have hil:i<l.length:=by omega
  have hb:=bnd hil;unfold rE;simp only[ch,hb,ab,bK,aL hil,List.set_set,kN hil,aa];rw[dlt (show(i:Int)<(l.length:Int) by omega),ab,ak (show m<_ by omega),ak (show m+1<_ by omega),ak (show m+1+1<_ by omega),ak (show m+1+1+1<_ by omega),ak (show m+1+1+1+1<_ by omega),ak (show m+1+1+1+1+1<_ by omega),ak (show i<_ by omega)];obtain⟨l',e⟩:=ih (i+1) j (m+1+1+1+1+1+1) (l.set i (((m:Int),(((m+1:Nat):Int),((m+1+1:Nat):Int))),(((m+1+1+1:Nat):Int),(((m+1+1+1+1:Nat):Int),((m+1+1+1+1+1:Nat):Int))))) nx (by rw[ch];omega) (by rw[ch];exact hl) (by omega) (by rw[ch];omega) (by omega);exact⟨l',by rw[e,show m+1+1+1+1+1+1+6*n=m+6*(n+1) by omega]⟩
theorem Jp :∀(n i j:Nat)(m:Nat)(l:List CrG){ρ:Type}(nx:((((Int×Unit)×((List CrG)×Unit))->Option ρ)×Unit)),l.length-i=n->l.length≤1048576->m≤6*1048576+3*i+1->i≤l.length->n+1≤j->
    ∃l',rF kk j (m:Int) (i:Int) l nx=nx.1 ((((m+3*n:Nat):Int),()),(l',())):=by
 intro n
 induction n with
 |zero=>
  intro i j m l ρ nx hn hl hm hi hj;obtain⟨j,rfl⟩:=aA hj;refine⟨l,?_⟩;unfold rF;rw[eJ (by omega)];rfl
 |succ n ih=>
  intro i j m l ρ nx hn hl hm hi hj;obtain⟨j,rfl⟩:=aA hj;have hil:i<l.length:=by omega
  have hb:=bnd hil;unfold rF;simp only[ch,hb,ab,bK,aL hil,List.set_set,kN hil,aa];rw[dlt (show(i:Int)<(l.length:Int) by omega),ab,ak (show m<_ by omega),ak (show m+1<_ by omega),ak (show m+1+1<_ by omega),ak (show i<_ by omega)];obtain⟨l',e⟩:=ih (i+1) j (m+1+1+1) (l.set i ((m:Int),(((m+1:Nat):Int),((m+1+1:Nat):Int)))) nx (by rw[ch];omega) (by rw[ch];exact hl) (by omega) (by rw[ch];omega) (by omega);exact⟨l',by rw[e,show m+1+1+1+3*n=m+3*(n+1) by omega]⟩
theorem ym {L:List PtG}{C:List CrG}(h:L.length+C.length≤1048576)(hk:1048576+10≤kk):∃(m:Nat)(L':List PtG)(C':List CrG),f18 kk 1 L C=some (((m:Int),()),(L',C',())):=by obtain⟨L',e1⟩:=Jr (kk:=kk) L.length 0 kk 1 L (ρ:=(Int×Unit)×(List PtG)×Unit) (λx17=>some ((x17.1.1,()),(x17.2.1,())),()) rfl (by omega) (by omega) (by omega) (by omega);obtain⟨C',e2⟩:=Jp (kk:=kk) C.length 0 kk (1+6*L.length) C (ρ:=(Int×Unit)×(List CrG)×Unit) (λx11=>some ((x11.1.1,()),(x11.2.1,())),()) rfl (by omega) (by omega) (by omega) (by omega);rw[show((0:Nat):Int)=0 from rfl,show((1:Nat):Int)=1 from rfl]at e1;rw[show((0:Nat):Int)=0 from rfl]at e2;refine⟨1+6*L.length+3*C.length,L',C',?_⟩;unfold f18 f38 f39;rw[e1];simp only[aa];rw[e2];rfl
theorem Jq :∀(n i j:Nat)(m:Nat)(l:List Int){ρ:Type}(nx:((((Int×Unit)×((List Int)×Unit))->Option ρ)×Unit)),l.length-i=n->l.length≤1048576->m=i+1->i≤l.length->(∀k,k<i->l[k]? =some ((k+1:Nat):Int))->n+1≤j->
    ∃l',qZ kk j (m:Int) (i:Int) l nx=nx.1 ((((m+n:Nat):Int),()),(l',()))/\l'.length=l.length/\∀k,k<l'.length->l'[k]? =some ((k+1:Nat):Int):=by
 intro n
 induction n with
 |zero=>
  intro i j m l ρ nx hn hl hm hi hp hj;obtain⟨j,rfl⟩:=aA hj;refine⟨l,?_,rfl,λk hk=>hp k (by omega)⟩;unfold qZ;rw[eJ (by omega)];rfl
 |succ n ih=>
  intro i j m l ρ nx hn hl hm hi hp hj;obtain⟨j,rfl⟩:=aA hj;have hil:i<l.length:=by omega
  have hb:=bnd hil;unfold qZ;simp only[hb,ab,bK,aL hil,aa];rw[dlt (show(i:Int)<(l.length:Int) by omega),ab,ak (show m<_ by omega),ak (show i<_ by omega)]
  obtain⟨l',e,e2,e3⟩:=ih (i+1) j (m+1) (l.set i (m:Int)) nx (by rw[ch];omega) (by rw[ch];exact hl) (by omega) (by rw[ch];omega) (λk hk=>by
   by_cases q:k=i
   . subst q;rw[kN hil,hm]
   . rw[nF (λe=>q e.symm)];exact hp k (by omega)) (by omega)
  exact⟨l',by rw[e,show m+1+n=m+(n+1) by omega],by rw[e2,ch],e3⟩
theorem Jg (l:List Int)(hl:l.length≤1048576)(h:∀k,k<l.length->l[k]? =some ((k+1:Nat):Int)):∀(n i j:Nat){ρ:Type}(nx:((((Int×Unit)×Unit)->Option ρ)×(((Int×Unit)×Unit)->Option ρ)×Unit)),l.length-i=n->i≤l.length->n+1≤j->
    q7 kk j l ((i+1:Nat):Int) (i:Int) nx=nx.1 ((((l.length+1:Nat):Int),()),()):=by
 intro n
 induction n with
 |zero=>
  intro i j ρ nx hn hi hj;obtain⟨j,rfl⟩:=aA hj;unfold q7;rw[eJ (by omega),ac,show i=l.length by omega]
 |succ n ih=>intro i j ρ nx hn hi hj;obtain⟨j,rfl⟩:=aA hj;unfold q7;rw[dlt (by omega),ab,cO,h i (by omega)];simp only[aa,dB,ac];rw[ak (show i+1<_ by omega),ak (show i<_ by omega)];exact ih (i+1) j nx (by omega) (by omega) (by omega)
theorem KV (l:List Int)(hl:l.length≤1000)(hk:1100≤kk):∃l',f19 kk 1 l=some ((((l.length+1:Nat):Int),()),(l',()))/\f20 kk l' 1=some ((((l.length+1:Nat):Int),()),()):=by obtain⟨l',e1,e2,e3⟩:=Jq (kk:=kk) l.length 0 kk 1 l (ρ:=(Int×Unit)×(List Int)×Unit) (λx6=>some ((x6.1.1,()),(x6.2.1,())),()) rfl (by omega) rfl (by omega) (λk hk=>by omega) (by omega);have e4:=Jg (kk:=kk) l' (by omega) e3 l'.length 0 kk (ρ:=(Int×Unit)×Unit) (λx7=>some ((x7.1.1,()),()),λx8=>some ((x8.1.1,()),()),()) rfl (by omega) (by omega);rw[e2]at e4;rw[show((0:Nat):Int)=0 from rfl,show((1:Nat):Int)=1 from rfl,mL 1]at e1;rw[show((0:Nat):Int)=0 from rfl,show((0+1:Nat):Int)=1 from rfl]at e4;exact⟨l',e1,e4⟩
def mrk (m:Nat):fr:=((m:Int),(((m+1:Nat):Int),(((((m+2:Nat):Int).tmod 3)==0),(((((m+3:Nat):Int).tmod 3)==0),(((((m+4:Nat):Int).tmod 3)==0),((((m+5:Nat):Int).tmod 3)==0))))))
theorem Js :∀(n i j:Nat)(m:Nat)(l:List fr){ρ:Type}(nx:((((Int×Unit)×((List fr)×Unit))->Option ρ)×Unit)),l.length-i=n->l.length≤1000->m=6*i+1->i≤l.length->(∀k,k<i->l[k]? =some (mrk (6*k+1)))->n+1≤j->
    ∃l',rr kk j (m:Int) (i:Int) l nx=nx.1 ((((m+6*n:Nat):Int),()),(l',()))/\l'.length=l.length/\∀k,k<l'.length->l'[k]? =some (mrk (6*k+1)):=by
 intro n
 induction n with
 |zero=>
  intro i j m l ρ nx hn hl hm hi hp hj;obtain⟨j,rfl⟩:=aA hj;refine⟨l,?_,rfl,λk hk=>hp k (by omega)⟩;unfold rr;rw[eJ (by omega)];rfl
 |succ n ih=>
  intro i j m l ρ nx hn hl hm hi hp hj;obtain⟨j,rfl⟩:=aA hj;have hil:i<l.length:=by omega
  have hb:=bnd hil;unfold rr;simp only[ch,hb,ab,bK,aL hil,List.set_set,kN hil,aa];rw[dlt (show(i:Int)<(l.length:Int) by omega),ab,ak (show m<_ by omega),ak (show m+1<_ by omega),ak (show m+1+1<_ by omega),ak (show m+1+1+1<_ by omega),ak (show m+1+1+1+1<_ by omega),ak (show m+1+1+1+1+1<_ by omega),ak (show i<_ by omega)]
  obtain⟨l',e,e2,e3⟩:=ih (i+1) j (m+6) (l.set i (mrk m)) nx (by rw[ch];omega) (by rw[ch];exact hl) (by omega) (by rw[ch];omega) (λk hk=>by
   by_cases q:k=i
   . subst q;rw[kN hil,hm]
   . rw[nF (λe=>q e.symm)];exact hp k (by omega)) (by omega)
  exact⟨l',by rw[show m+6*(n+1)=m+6+6*n by omega];exact e,by rw[e2,ch],e3⟩
theorem Jh (l:List fr)(hl:l.length≤1000)(h:∀k,k<l.length->l[k]? =some (mrk (6*k+1))):∀(n i j:Nat){ρ:Type}(nx:((((Int×Unit)×Unit)->Option ρ)×(((Int×Unit)×Unit)->Option ρ)×Unit)),l.length-i=n->i≤l.length->n+1≤j->
    rs kk j l ((6*i+1:Nat):Int) (i:Int) nx=nx.1 ((((6*l.length+1:Nat):Int),()),()):=by
 intro n
 induction n with
 |zero=>
  intro i j ρ nx hn hi hj;obtain⟨j,rfl⟩:=aA hj;unfold rs;rw[eJ (by omega),ac,show i=l.length by omega]
 |succ n ih=>
  intro i j ρ nx hn hi hj;obtain⟨j,rfl⟩:=aA hj;unfold rs;rw[dlt (by omega),ab,cO,h i (by omega)];generalize hq:6*i+1=q;have hq2:q<10000:=by omega
  simp only[aa,mrk,dB,ac];rw[ak (show q<_ by omega),ak (show q+1<_ by omega),ak (show q+1+1<_ by omega),ak (show q+1+1+1<_ by omega),ak (show q+1+1+1+1<_ by omega),ak (show q+1+1+1+1+1<_ by omega),ak (show i<_ by omega)];simp only[dB,dV,bi,ac];rw[show q+1+1+1+1+1+1=6*(i+1)+1 by omega];exact ih (i+1) j nx (by omega) (by omega) (by omega)
theorem KW (l:List fr)(hl:l.length≤1000)(hk:1100≤kk):∃l',f24 kk 1 l=some ((((6*l.length+1:Nat):Int),()),(l',()))/\f25 kk l' 1=some ((((6*l.length+1:Nat):Int),()),()):=by obtain⟨l',e1,e2,e3⟩:=Js (kk:=kk) l.length 0 kk 1 l (ρ:=(Int×Unit)×(List fr)×Unit) (λx6=>some ((x6.1.1,()),(x6.2.1,())),()) rfl (by omega) rfl (by omega) (λk hk=>by omega) (by omega);have e4:=Jh (kk:=kk) l' (by omega) e3 l'.length 0 kk (ρ:=(Int×Unit)×Unit) (λx7=>some ((x7.1.1,()),()),λx8=>some ((x8.1.1,()),()),()) rfl (by omega) (by omega);rw[e2]at e4;rw[show((0:Nat):Int)=0 from rfl,show((1:Nat):Int)=1 from rfl,mL 1]at e1;rw[show((0:Nat):Int)=0 from rfl,show((6*0+1:Nat):Int)=1 from rfl]at e4;exact⟨l',e1,e4⟩
theorem Em (l:List Int)(hl:l.length≤1000):∀(r:List Int)(i j:Nat){ρ:Type}(nx:(((Unit×Unit)->Option ρ)×(((Bool×Unit)×Unit)->Option ρ)×Unit)),l.drop i=r->r.length+1≤j->qY kk j l l (i:Int) nx=nx.1 ((),())
 |[],i,j,ρ,nx,h,hj=>by
  obtain⟨j,rfl⟩:=aA hj;unfold qY;rw[aP h,ac]
 |p::r,i,j,ρ,nx,h,hj=>by obtain⟨j,rfl⟩:=aA hj;have hi:=aK h;simp only[ax]at hj;unfold qY;rw[aJ h,ab,aE h];simp only[aa,dB,ac];rw[ak (by omega)];exact Em l hl r (i+1) j nx (an h) (by omega)
theorem Vg (l:List Int)(hl:l.length≤1000)(hk:1100≤kk):f17 kk l l=some ((true,()),()):=by unfold f17;rw[dB,ac];exact Em l hl l 0 kk (ρ:=(Bool×Unit)×Unit) (λ_=>some ((true,()),()),λx9=>some ((x9.1.1,()),()),()) rfl (by omega)
theorem QU (p:fr):f14 kk p.1 p.2.1 p.2.2.1 p.2.2.2.1 p.2.2.2.2.1 p.2.2.2.2.2 p.1 p.2.1 p.2.2.1 p.2.2.2.1 p.2.2.2.2.1 p.2.2.2.2.2=some ((true,()),()):=by unfold f14;simp only[dB,dV,bi,ac]
theorem En (l:List fr)(hl:l.length≤1000):∀(r:List fr)(i j:Nat){ρ:Type}(nx:(((Unit×Unit)->Option ρ)×(((Bool×Unit)×Unit)->Option ρ)×Unit)),l.drop i=r->r.length+1≤j->rn kk j l l (i:Int) nx=nx.1 ((),())
 |[],i,j,ρ,nx,h,hj=>by
  obtain⟨j,rfl⟩:=aA hj;unfold rn;rw[aP h,ac]
 |p::r,i,j,ρ,nx,h,hj=>by obtain⟨j,rfl⟩:=aA hj;have hi:=aK h;simp only[ax]at hj;unfold rn;rw[aJ h,ab,aE h];simp only[aa];rw[QU];simp only[aa,bi,ac];rw[ak (by omega)];exact En l hl r (i+1) j nx (an h) (by omega)
theorem Vh (l:List fr)(hl:l.length≤1000)(hk:1100≤kk):f23 kk l l=some ((true,()),()):=by unfold f23;rw[dB,ac];exact En l hl l 0 kk (ρ:=(Bool×Unit)×Unit) (λ_=>some ((true,()),()),λx9=>some ((x9.1.1,()),()),()) rfl (by omega)
variable {L : List PtG} {C : List CrG} {R : List Int}
theorem LJ (hkk:600≤kk)(v:Valid L C R):∀(n i j:Nat)(acc:List fr),L.length-i=n->i≤L.length->acc.length=i->n+1≤j->
    ∃X:List fr,X.length=L.length/\(∀{ρ:Type}(nx:((((Unit×Unit)×((List fr)×Unit))->Option ρ)×Unit)),rD kk j (L.length:Int) (i:Int) L C acc nx=nx.1 (((),()),(X,())))/\
     ∀{ρ:Type}(nx:((((Unit×Unit)×((List fr)×Unit))->Option ρ)×Unit)),q9 kk j (i:Int) L C (roundOf L R) acc nx=nx.1 (((),()),(X,())):=by
 intro n;have hL:=v.g.nL
 induction n with
 |zero=>
  intro i j acc hn hi ha hj;obtain⟨j,rfl⟩:=aA hj;refine⟨acc,by omega,λnx=> ?_,λnx=> ?_⟩
  . unfold rD;rw[eJ (by omega),ac]
  . unfold q9;rw[eJ (by omega),ac]
 |succ n ih=>
  intro i j acc hn hi ha hj;obtain⟨j,rfl⟩:=aA hj;obtain⟨p,p0,p1,p2⟩:=Bc hkk v (i:Int);obtain⟨X,x1,x2,x3⟩:=ih (i+1) j (acc++[p]) (by omega) (by omega) (by rw[aV,ha];rfl) (by omega);have hr:decide ((acc.length+[p].length)*24≤roomy)=true:=ai (by show(acc.length+1)*24≤140737488351232;omega);refine⟨X,x1,λnx=> ?_,λnx=> ?_⟩
  . unfold rD;rw[dlt (by omega),ab,p1];simp only[aa];rw[hr,ab,ak (by omega)];exact x2 nx
  . unfold q9;rw[dlt (by omega),ab,p2];simp only[aa];rw[hr,ab,ak (by omega)];exact x3 nx
theorem yv (hkk:1048576+500≤kk)(L:List PtG)(C:List CrG)(h:L.length+C.length≤1048576):
    (f36 kk L C=some ((false,()),())/\f21 kk L C=some (((),1,()),([],())))\/
    ∃X:List fr,X.length≤40/\f36 kk L C=some ((true,()),())/\f37 kk L C=some (((),()),(X,()))/\f21 kk L C=some (((),0,()),(X,())):=by
 rcases Fp (kk:=kk) (by omega) L C (by omega) (by omega) (by omega) (by omega)with⟨e1,a,b,e2⟩|⟨R,v,e1,e2⟩
 . left;refine⟨e1,?_⟩;unfold f21;rw[e2];rfl
 . right;have hL:=v.g.nL;obtain⟨X,x1,x2,x3⟩:=LJ (kk:=kk) (by omega) v L.length 0 kk [] rfl (by omega) rfl (by omega);refine⟨X,by omega,e1,?_,?_⟩
   . unfold f37 f67;simp only[aa];exact x2 (ρ:=(Unit×Unit)×(List fr)×Unit) (λx16=>some (((),()),(x16.2.1,())),())
   . unfold f21;rw[e2];simp only[aa,bi,ac];exact x3 (ρ:=(Unit×Int×Unit)×(List fr)×Unit) (λx11=>some (((),0,()),(x11.2.1,())),())
def r7 (p:fr):Bool:= !p.2.2.2.1|| !p.2.2.2.2.1|| !p.2.2.2.2.2
theorem xk (X:List fr)(hX:X.length≤40):∀(r:List fr)(i j:Nat)(acc:List Int){ρ:Type}(nx:((((Unit×Unit)×((List Int)×Unit))->Option ρ)×Unit)),X.drop i=r->acc.length≤i->r.length+1≤j->
    la kk j (X.length:Int) (i:Int) acc X nx=nx.1 (((),()),(acc++(r.filter r7).map (·.1),()))
 |[],i,j,acc,ρ,nx,h,ha,hj=>by
  obtain⟨j,rfl⟩:=aA hj;unfold la;rw[aP h,ac];simp
 |p::r,i,j,acc,ρ,nx,h,ha,hj=>by obtain⟨j,rfl⟩:=aA hj;have hi:=aK h;simp only[ax]at hj;have hr:decide ((acc.length+[p.1].length)*8≤roomy)=true:=ai (by show(acc.length+1)*8≤140737488351232;omega);have i1:=xk X hX r (i+1) j (acc++[p.1]) nx (an h) (by rw[aV];simp only[ax,br];omega) (by omega);have i2:=xk X hX r (i+1) j acc nx (an h) (by omega) (by omega);unfold la;rw[aJ h,ab,dle (show(0:Int)≤(i:Int) by omega),dL,ab,bK,aO h];simp only[aa];rw[hr,ak (by omega),i1,i2,kH];unfold r7;cases p.2.2.2.1<;>cases p.2.2.2.2.1<;>cases p.2.2.2.2.2<;>simp
theorem xl (X:List fr)(hX:X.length≤40):∀(r:List fr)(i j:Nat)(acc:List Int){ρ:Type}(nx:((((Unit×Unit)×((List Int)×Unit))->Option ρ)×Unit)),X.drop i=r->acc.length≤i->r.length+1≤j->
    k9 kk j (i:Int) X acc nx=nx.1 (((),()),(acc++(r.filter r7).map (·.1),()))
 |[],i,j,acc,ρ,nx,h,ha,hj=>by
  obtain⟨j,rfl⟩:=aA hj;unfold k9;rw[aP h,ac];simp
 |p::r,i,j,acc,ρ,nx,h,ha,hj=>by obtain⟨j,rfl⟩:=aA hj;have hi:=aK h;simp only[ax]at hj;have hr:decide ((acc.length+[p.1].length)*8≤roomy)=true:=ai (by show(acc.length+1)*8≤140737488351232;omega);have i1:=xl X hX r (i+1) j (acc++[p.1]) nx (an h) (by rw[aV];simp only[ax,br];omega) (by omega);have i2:=xl X hX r (i+1) j acc nx (an h) (by omega) (by omega);unfold k9;rw[aJ h,ab,dle (show(0:Int)≤(i:Int) by omega),dL,ab,bK,aO h];simp only[aa,ab];rw[hr,ak (by omega),i1,i2,kH];unfold r7;cases p.2.2.2.1<;>cases p.2.2.2.2.1<;>cases p.2.2.2.2.2<;>simp
theorem Fq (hkk:1048576+500≤kk)(L:List PtG)(C:List CrG)(h:L.length+C.length≤1048576):∃(c:Int)(W:List Int),W.length≤40/\f16 kk L C=some (((),c,()),(W,()))/\f15 kk L C=some (((),c,()),(W,())):=by
 rcases yv hkk L C h with⟨e1,e2⟩|⟨X,x0,e1,e2,e3⟩
 . refine⟨1,[],by simp,?_,?_⟩
   . unfold f16;rw[e1];rfl
   . unfold f15;rw[e2];rfl
 . have w1:=xk (kk:=kk) X x0 X 0 kk [] (ρ:=(Unit×Int×Unit)×(List Int)×Unit) (λx17=>some (((),0,()),(x17.2.1,())),()) rfl (aM _) (by omega);have w2:=xl (kk:=kk) X x0 X 0 kk [] (ρ:=(Unit×Int×Unit)×(List Int)×Unit) (λx13=>some (((),0,()),(x13.2.1,())),()) rfl (aM _) (by omega);refine⟨0,(X.filter r7).map (·.1),?_,?_,?_⟩
   . rw[dJ];have:=List.length_filter_le r7 X;omega
   . unfold f16;rw[e1];simp only[aa,bi,ac];rw[e2];exact w1
   . unfold f15;rw[e3];exact w2
end
open R1
def qB :Prop:=∀(x0:((List ((Int×(Int×Int))×(Int×(Int×Int))))×(List (Int×(Int×Int))))),Ok (.pair (.sl (.pair (.pair (.int .i64) (.pair (.int .i64) (.int .i64))) (.pair (.int .i64) (.pair (.int .i64) (.int .i64))))) (.sl (.pair (.int .i64) (.pair (.int .i64) (.int .i64))))) x0->∀(x1:Int),Ok (.int .i64) x1->∃k,f4 k x0.1 x0.2 x1=some ((true,()),())
def pW :Prop:=∀(x0:((List ((Int×(Int×Int))×(Int×(Int×Int))))×(List (Int×(Int×Int))))),Ok (.pair (.sl (.pair (.pair (.int .i64) (.pair (.int .i64) (.int .i64))) (.pair (.int .i64) (.pair (.int .i64) (.int .i64))))) (.sl (.pair (.int .i64) (.pair (.int .i64) (.int .i64))))) x0->∃k,f6 k x0.1 x0.2=some ((true,()),())
def qC :Prop:=∀(x0:((List ((Int×(Int×Int))×(Int×(Int×Int))))×(List (Int×(Int×Int))))),Ok (.pair (.sl (.pair (.pair (.int .i64) (.pair (.int .i64) (.int .i64))) (.pair (.int .i64) (.pair (.int .i64) (.int .i64))))) (.sl (.pair (.int .i64) (.pair (.int .i64) (.int .i64))))) x0->∃k,f5 k x0.1 x0.2=some ((true,()),())
theorem OY {kk:Nat}(hkk:1048576+500≤kk)(L:List PtG)(C:List CrG)(t:Int)(h:L.length+C.length≤1048576):∃(c:Int)(p:fr),
    f12 kk L C t=some (((p.1,p.2.1,p.2.2.1,p.2.2.2.1,p.2.2.2.2.1,p.2.2.2.2.2,()),c,()),())/\f13 kk L C t=some (((p.1,p.2.1,p.2.2.1,p.2.2.2.1,p.2.2.2.2.1,p.2.2.2.2.2,()),c,()),()):=by
 unfold f12 f13 f32 f34;rcases Fp (kk:=kk) (by omega) L C (by omega) (by omega) (by omega) (by omega)with⟨e1,a,b,e2⟩|⟨R,v,e1,e2⟩
 . rw[e1,e2];exact⟨1,(0,(0,(false,(false,(false,false))))),rfl,rfl⟩
 . rw[e1,e2];simp only[aa,bi,ac];unfold f45 f51 f90 f67;simp only[aa];rw[aw (by omega) (by omega)];obtain⟨p,p0,p1,p2⟩:=Bc (kk:=kk) (by omega) v t;have bad:∃(c:Int)(p:fr),c=3/\p=(0,(0,(false,(false,(false,false))))):=⟨_,_,rfl,rfl⟩;by_cases q:t≥0
   . rw[ai q,ab];simp only[aa];by_cases q2:t≤(L.length:Int)-1
     . rw[ai q2];simp only[bi,ac,aa];refine⟨0,p,?_,?_⟩
       . show(bif((0:Int) !=0)then _ else _)=_;rw[dB,ac];show(f33 kk (L,C) (roundOf L R) t).bind _=_;rw[p2];rfl
       . show(bif((0:Int) !=0)then _ else _)=_;rw[dB,ac,p1];rfl
     . rw[al q2];exact⟨3,(0,(0,(false,(false,(false,false))))),rfl,rfl⟩
   . rw[al q];exact⟨3,(0,(0,(false,(false,(false,false))))),rfl,rfl⟩
abbrev Ch :U:=.pair (.sl (.pair (.pair (.int .i64) (.pair (.int .i64) (.int .i64))) (.pair (.int .i64) (.pair (.int .i64) (.int .i64))))) (.sl (.pair (.int .i64) (.pair (.int .i64) (.int .i64))))
theorem M0 (x0:(List PtG)×(List CrG))(o0:Ok Ch x0):f3 (1048576+500) x0.1 x0.2=some ((true,()),()):=by
 obtain⟨r,s1,s2⟩:=Cl (1048576+500) x0.1 x0.2 o0.1.1 o0.2.1;unfold f3;rw[s1];simp only[aa];by_cases q:r<0
 . rw[ai q];rfl
 . have h:=s2.resolve_left q;obtain⟨c,W,_,w1,w2⟩:=Fq (kk:=1048576+500) (aM _) x0.1 x0.2 h;rw[al q,ac,Cn h (by omega)];simp only[aa];unfold f8 f10;rw[w1,w2];simp only[aa];cases c==0<;>(simp only[ab,ac,aa,dV,bi];rw[Cd h (by omega)];rfl)
theorem JA (x0:(List PtG)×(List CrG))(o0:Ok Ch x0)(x1:Int):f4 (1048576+500) x0.1 x0.2 x1=some ((true,()),()):=by
 obtain⟨r,s1,s2⟩:=Cl (1048576+500) x0.1 x0.2 o0.1.1 o0.2.1;unfold f4;rw[s1];simp only[aa];by_cases q:r<0
 . rw[ai q];rfl
 . have h:=s2.resolve_left q;obtain⟨c,p,p1,p2⟩:=OY (kk:=1048576+500) (aM _) x0.1 x0.2 x1 h;rw[al q,ac,Cn h (by omega)];simp only[aa];rw[p1];simp only[aa];rw[p2];simp only[aa];rw[QU];simp only[aa,bi,ac,dB];rw[Cd h (by omega)];rfl
theorem H4 (n:Nat):decide (((n:Nat):Int)<0)=false:=al (by omega)
theorem FP (x0:(List PtG)×(List CrG))(o0:Ok Ch x0):f6 (1048576+500) x0.1 x0.2=some ((true,()),()):=by
 obtain⟨r,s1,s2⟩:=Cl (1048576+500) x0.1 x0.2 o0.1.1 o0.2.1;unfold f6;rw[s1];simp only[aa];by_cases q:r<0
 . rw[ai q];rfl
 . have h:=s2.resolve_left q
   obtain⟨c,X,hX,w1,w2⟩:∃(c:Int)(X:List fr),X.length≤40/\f22 (1048576+500) x0.1 x0.2=some (((),c,()),(X,()))/\f21 (1048576+500) x0.1 x0.2=some (((),c,()),(X,())):=by
    unfold f22;rcases yv (kk:=1048576+500) (aM _) x0.1 x0.2 h with⟨e1,e2⟩|⟨X,x0,e1,e2,e3⟩
    . rw[e1];exact⟨1,[],by simp,rfl,e2⟩
    . rw[e1];simp only[aa,bi,ac];rw[e2];exact⟨0,X,x0,rfl,e3⟩
   obtain⟨m,L',C',m1⟩:=ym (kk:=1048576+500) h (by omega);obtain⟨l',m2,m3⟩:=KW (kk:=1048576+500) X (by omega) (by omega);have t:=Cn (k:=1048576+500) h (by omega);have e:=Vh (kk:=1048576+500) X (by omega) (by omega);rw[al q,ac,t];simp only[aa];rw[w2];simp only[aa];rw[w1];simp only[aa];rw[e];simp only[aa,bi,ac,dB];rw[Cd h (by omega)];simp only[aa,bi,ac];rw[m1];simp only[aa];rw[H4,m2];simp only[aa,ac];rw[m3];simp only[aa,dB,ac];rw[H4];rfl
theorem Mj (x0:(List PtG)×(List CrG))(o0:Ok Ch x0):f5 (1048576+500) x0.1 x0.2=some ((true,()),()):=by
 obtain⟨r,s1,s2⟩:=Cl (1048576+500) x0.1 x0.2 o0.1.1 o0.2.1;unfold f5;rw[s1];simp only[aa];by_cases q:r<0
 . rw[ai q];rfl
 . have h:=s2.resolve_left q;obtain⟨c,X,hX,w1,w2⟩:=Fq (kk:=1048576+500) (aM _) x0.1 x0.2 h;obtain⟨m,L',C',m1⟩:=ym (kk:=1048576+500) h (by omega);obtain⟨l',m2,m3⟩:=KV (kk:=1048576+500) X (by omega) (by omega);have t:=Cn (k:=1048576+500) h (by omega);have e:=Vg (kk:=1048576+500) X (by omega) (by omega);rw[al q,ac,t];simp only[aa];rw[w2];simp only[aa];rw[w1];simp only[aa];rw[e];simp only[aa,bi,ac,dB];rw[Cd h (by omega)];simp only[aa,bi,ac];rw[m1];simp only[aa];rw[H4,m2];simp only[aa,ac];rw[m3];simp only[aa,dB,ac];rw[H4];rfl
theorem qL :qA:=λx0 o0=>⟨1048576+500,M0 x0 o0⟩
end Go.Proofs.YtlkkaielmdlefaaGreatDoor.R
