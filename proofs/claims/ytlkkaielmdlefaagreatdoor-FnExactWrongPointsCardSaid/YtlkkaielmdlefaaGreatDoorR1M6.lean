/- Part 6: The corners of the border, on both sides. -/
import Derived.Test.YtlkkaielmdlefaaGreatDoorR1M5
import Derived.Sort.AssemblyPlain
import Derived.Laws.Bits64
set_option linter.unusedVariables false
namespace Go.Proofs.YtlkkaielmdlefaaGreatDoor.R
open R1 Z2
def atN (l:List PtG)(i:Nat):PtG:=(l[i]?).getD ((0,(0,0)),(0,(0,0)))
theorem cN {l:List PtG}{i:Nat}(h:i<l.length):aq l (i:Int)=some (atN l i):=by rw[cO];unfold atN;rw[aL h];rfl
theorem xB {l:List PtG}{i:Nat}(h:i<l.length):l[i]? =some (atN l i):=by unfold atN;rw[aL h];rfl
theorem dA {l:List PtG}{i:Nat}(h:i<l.length):atN l i∈l:=aX (xB h)
theorem ss {l r:List PtG}{i:Nat}{q:PtG}(h:l.drop i=q::r):atN l i=q:=by unfold atN;rw[aO h];rfl
theorem fF {i n:Nat}(hn:0<n)(hi:i<4611686018427387904):(wr .i64 ((i:Int)+1)).tmod (n:Int)=(((i+1)%n:Nat):Int):=by rw[ak hi,uO (by omega)];rfl
theorem HD {i n:Nat}(hn:0<n)(hi:i<1000000)(hn2:n<1000000):(wr .i64 ((wr .i64 ((i:Int)+(n:Int)))-1)).tmod (n:Int)=(((i+n-1)%n:Nat):Int):=by rw[aw (x:=(i:Int)+(n:Int)) (by omega) (by omega),aw (by omega) (by omega),show(i:Int)+(n:Int)-1=((i+n-1:Nat):Int) by omega,uO (by omega)];rfl
def aI (p q:PtG):Int:=bS (aD (pt q) (pt p))
section
variable {kk : Nat} {p q : PtG}
theorem mU (hkk:400≤kk)(hp:okP p=true)(hq:okP q=true):f108 kk p.1.1 p.1.2.1 p.1.2.2 p.2.1 p.2.2.1 p.2.2.2 q.1.1 q.1.2.1 q.1.2.2 q.2.1 q.2.2.1 q.2.2.2=some ((aI p q,()),()):=by obtain⟨rp,bp⟩:=cA hp;obtain⟨rq,bq⟩:=cA hq;exact tU hkk rp rq bp bq
theorem yo (kk:Nat)(p:PtG):f126 kk p.1.1 p.1.2.1 p.1.2.2 p.2.1 p.2.2.1 p.2.2.2=some (((p.1.1,p.1.2.1,p.1.2.2,p.2.1,p.2.2.1,p.2.2.2,()),()),()):=by unfold f126 f185;simp only[aa]
theorem qW (hkk:400≤kk)(hp:okP p=true)(hq:okP q=true):∃u1 u2 u3 u4 u5 u6,f128 kk q.1.1 q.1.2.1 q.1.2.2 q.2.1 q.2.2.1 q.2.2.2 p.1.1 p.1.2.1 p.1.2.2 p.2.1 p.2.2.1 p.2.2.2=some (((u1,u2,u3,u4,u5,u6,()),()),())/\f127 kk u1 u2 u3 u4 u5 u6=some ((aI p q,()),()):=by obtain⟨rp,bp⟩:=cA hp;obtain⟨rq,bq⟩:=cA hq;obtain⟨u1,u2,u3,u4,u5,u6,h1,h2⟩:=qj (kk:=kk) hkk (by omega) rq rp (bq.mono (by omega)) (bp.mono (by omega));exact⟨u1,u2,u3,u4,u5,u6,h1,nM (N:=268435456) hkk (by omega) h2 ((bq.sub bp).mono (by omega)) (by omega) (by omega)⟩
end
def nK (l:List PtG):Nat->List PtG->List PtG
 |_,[]=>[]
 |i,q::r=>(if aI (atN l ((i+l.length-1)%l.length)) q≠aI q (atN l ((i+1)%l.length))then[q]else[])++nK l (i+1) r
theorem tB {kk:Nat}(hkk:400≤kk)(l:List PtG)(hl:∀p∈l,okP p=true)(hlen:l.length≤40):∀(r:List PtG)(i j:Nat)(acc:List PtG){ρ:Type}(nx:((((Unit×Unit)×((List PtG)×Unit))->Option ρ)×Unit)),l.drop i=r->r.length+1≤j->acc.length≤i->
    lO kk j l (l.length:Int) l (l.length:Int) (i:Int) acc nx=nx.1 (((),()),(acc++nK l i r,()))
 |[],i,j,acc,ρ,nx,h,hj,ha=>by
  obtain⟨j,rfl⟩:=aA hj;unfold lO;rw[aP h];simp[nK]
 |q::r,i,j,acc,ρ,nx,h,hj,ha=>by
  obtain⟨j,rfl⟩:=aA hj;have hi:=aK h;have hq:okP q=true:=hl q (aX (aO h));have hpos:0<l.length:=by omega
  have m1:(i+l.length-1)%l.length<l.length:=gM _ hpos;have m2:(i+1)%l.length<l.length:=gM _ hpos;have ih:=λacc(ha:acc.length≤i+1)=>tB hkk l hl hlen r (i+1) j acc nx (an h) (by simp only[ax]at hj;omega) ha
  unfold lO;rw[aJ h,aE h,al (p:=(l.length:Int)=0) (by omega),HD hpos (by omega) (by omega),fF hpos (by omega)];simp only[ab,ac,aa];rw[cN m1,cN m2];simp only[aa];rw[mU hkk (hl _ (dA m1)) hq,mU hkk hq (hl _ (dA m2)),ak (by omega)];simp only[aa,nK];by_cases e:aI (atN l ((i+l.length-1)%l.length)) q=aI q (atN l ((i+1)%l.length))
  . rw[show(aI (atN l ((i+l.length-1)%l.length)) q !=aI q (atN l ((i+1)%l.length)))=false by simp[e],ae (λh=>h e),ac,ih acc (by omega)];rfl
  . rw[show(aI (atN l ((i+l.length-1)%l.length)) q !=aI q (atN l ((i+1)%l.length)))=true by simp[e],ah e,ai (p:=(acc.length+[q].length)*48≤roomy) (by simp only[ax,br,roomy];omega),ab,ab,ih _ (by rw[aV];simp;omega),bL]
theorem F6 {kk:Nat}(hkk:400≤kk)(l:List PtG)(hl:∀p∈l,okP p=true)(hlen:l.length≤40):f115 kk l=some (((),()),(nK l 0 l,())):=by unfold f115;have:=tB hkk l hl hlen l 0 kk [] (ρ:=((Unit×Unit)×((List PtG)×Unit))) (λx=>some (((),()),(x.2.1,())),()) rfl (by omega) (by simp);rw[show((0:Nat):Int)=0 from rfl]at this;rw[this];rfl
theorem gh {L:List PtG}{w:Int}(h0:0≤w)(h1:w<L.length):aq L w=some (atP L w)/\atP L w∈L:=by obtain⟨x,e,e2⟩:=m8 h0 h1;unfold atP;rw[e];exact⟨rfl,aX e2⟩
theorem rU {kk:Nat}(L:List PtG)(C:List CrG)(W:List Int)(hW:∀w∈W,0≤w/\w<L.length)(hlen:W.length≤40):∀(r:List Int)(i j:Nat)(acc:List PtG){ρ:Type}(nx:((((Unit×Unit)×((List PtG)×Unit))->Option ρ)×Unit)),W.drop i=r->r.length+1≤j->acc.length≤i->
    og kk j W (W.length:Int) (i:Int) L C acc nx=nx.1 (((),()),(acc++r.map (atP L),()))
 |[],i,j,acc,ρ,nx,h,hj,ha=>by
  obtain⟨j,rfl⟩:=aA hj;unfold og;rw[aP h];simp
 |w::r,i,j,acc,ρ,nx,h,hj,ha=>by obtain⟨j,rfl⟩:=aA hj;have hi:=aK h;obtain⟨w0,w1⟩:=hW w (aX (aO h));have ih:=rU (kk:=kk) L C W hW hlen r (i+1) j (acc++[atP L w]) nx (an h) (by simp only[ax]at hj;omega) (by rw[aV];simp;omega);unfold og;rw[aJ h,aE h];simp only[ab,aa];rw[(gh w0 w1).1];simp only[aa];rw[ai (p:=(acc.length+[atP L w].length)*48≤roomy) (by simp only[ax,br,roomy];omega),ak (by omega),ab,ih,bL];rfl
theorem ES {kk:Nat}(hkk:400≤kk)(L:List PtG)(C:List CrG)(W:List Int)(hW:∀w∈W,0≤w/\w<L.length)(hlen:W.length≤40):f116 kk L C W=some (((),()),(W.map (atP L),())):=by unfold f116;have:=rU (kk:=kk) L C W hW hlen W 0 kk [] (ρ:=((Unit×Unit)×((List PtG)×Unit))) (λx=>some (((),()),(x.2.1,())),()) rfl (by omega) (by simp);rw[show((0:Nat):Int)=0 from rfl]at this;rw[this];rfl
theorem Kg {L:List PtG}{W:List Int}{i:Nat}(h:i<W.length):∃w,aq W (i:Int)=some w/\w∈W/\atN (W.map (atP L)) i=atP L w:=by refine⟨W[i],by rw[cO,aL h],pV h,?_⟩;unfold atN;rw[iF,aL h];rfl
theorem tP {kk:Nat}(hkk:400≤kk)(L:List PtG)(C:List CrG)(hL:∀p∈L,okP p=true)(W:List Int)(hW:∀w∈W,0≤w/\w<L.length)(hlen:W.length≤40):∀(r:List Int)(i j:Nat)(acc:List PtG){ρ:Type}(nx:((((Unit×Unit)×((List PtG)×Unit))->Option ρ)×Unit)),W.drop i=r->r.length+1≤j->acc.length≤i->
    pn kk j (L,C) W (W.length:Int) (i:Int) acc nx=nx.1 (((),()),(acc++nK (W.map (atP L)) i (r.map (atP L)),()))
 |[],i,j,acc,ρ,nx,h,hj,ha=>by
  obtain⟨j,rfl⟩:=aA hj;unfold pn;rw[aP h];simp[nK]
 |w::r,i,j,acc,ρ,nx,h,hj,ha=>by
  obtain⟨j,rfl⟩:=aA hj;have hi:=aK h;obtain⟨w0,w1⟩:=hW w (aX (aO h));obtain⟨gw,mw⟩:=gh w0 w1;have hpos:0<W.length:=by omega
  have m1:(i+W.length-1)%W.length<W.length:=gM _ hpos;have m2:(i+1)%W.length<W.length:=gM _ hpos;obtain⟨wp,p1,p2,p3⟩:=Kg (L:=L) m1;obtain⟨wn,n1,n2,n3⟩:=Kg (L:=L) m2;obtain⟨gp,mp⟩:=gh (L:=L) (hW wp p2).1 (hW wp p2).2;obtain⟨gn,mn⟩:=gh (L:=L) (hW wn n2).1 (hW wn n2).2;obtain⟨u1,u2,u3,u4,u5,u6,a1,a2⟩:=qW (kk:=kk) hkk (hL _ mp) (hL _ mw);obtain⟨v1,v2,v3,v4,v5,v6,b1,b2⟩:=qW (kk:=kk) hkk (hL _ mw) (hL _ mn);have ih:=λacc(ha:acc.length≤i+1)=>tP hkk L C hL W hW hlen r (i+1) j acc nx (an h) (by simp only[ax]at hj;omega) ha
  unfold pn;dsimp only;rw[aJ h,aE h,al (p:=(W.length:Int)=0) (by omega),HD hpos (by omega) (by omega),fF hpos (by omega)];simp only[ab,ac,aa];rw[gw,p1,n1];simp only[aa];rw[gp,gn,yo kk (atP L w)];simp only[aa];rw[yo kk (atP L wp),yo kk (atP L wn)];simp only[aa];rw[a1];simp only[aa];rw[a2,b1];simp only[aa];rw[b2,ak (by omega)];simp only[aa,cR,nK,dJ];rw[p3,n3];by_cases e:aI (atP L wp) (atP L w)=aI (atP L w) (atP L wn)
  . rw[show(aI (atP L wp) (atP L w) !=aI (atP L w) (atP L wn))=false by simp[e],ae (λh=>h e),ac,ih acc (by omega)];rfl
  . rw[show(aI (atP L wp) (atP L w) !=aI (atP L w) (atP L wn))=true by simp[e],ah e,ai (p:=(acc.length+[atP L w].length)*48≤roomy) (by simp only[ax,br,roomy];omega),ab,ab,ih _ (by rw[aV];simp;omega),bL]
theorem HX {kk:Nat}(hkk:400≤kk)(L:List PtG)(C:List CrG)(hL:∀p∈L,okP p=true)(W:List Int)(hW:∀w∈W,0≤w/\w<L.length)(hlen:W.length≤40):f73 kk (L,C) W=some (((),()),(nK (W.map (atP L)) 0 (W.map (atP L)),())):=by unfold f73;have:=tP (kk:=kk) hkk L C hL W hW hlen W 0 kk [] (ρ:=((Unit×Unit)×((List PtG)×Unit))) (λx=>some (((),()),(x.2.1,())),()) rfl (by omega) (by simp);rw[show((0:Nat):Int)=0 from rfl]at this;rw[this];rfl
theorem wK (l:List PtG):∀(i:Nat)(r:List PtG),(nK l i r).Sublist r
 |_,[]=>.slnil
 |i,q::r=>by
  unfold nK;by_cases e:aI (atN l ((i+l.length-1)%l.length)) q≠aI q (atN l ((i+1)%l.length))
  . rw[ah e];exact(wK l (i+1) r).cons_cons q
  . rw[ae e];exact(wK l (i+1) r).cons q
theorem xJ (P Q:V2):dC P Q=if o P.1 Q.1≠0 then-o P.1 Q.1 else-o P.2 Q.2:=by
 unfold dC;rw[show(P.1.sub Q.1).sg=o Q.1 P.1 from rfl,show(P.2.sub Q.2).sg=o Q.2 P.2 from rfl,cu P.1 Q.1,cu P.2 Q.2];by_cases h:o P.1 Q.1=0
 . rw[ae (by omega),ae (by omega)]
 . rw[ah (by omega),ah h]
theorem Mu (P Q:V2):dC Q P= -dC P Q:=by
 rw[xJ,xJ,cu P.1 Q.1,cu P.2 Q.2];by_cases h:o P.1 Q.1=0
 . rw[ae (by omega),ae (by omega)]
 . rw[ah (by omega),ah h]
theorem wI (P:V2):dC P P=0:=by rw[xJ,K7,K7];rfl
theorem Mv {P Q:V2}(h:dC P Q=0):P=Q:=by
 rw[xJ]at h;by_cases h1:o P.1 Q.1=0
 . rw[ae (by omega)]at h;exact Prod.ext (nc.1 h1) (nc.1 (by omega))
 . rw[ah h1]at h;omega
theorem Ay {P Q R:V2}(h1:dC P Q≤0)(h2:dC Q R<0):dC P R<0:=by
 rw[xJ]at h1 h2⊢;have t1:=tr3 P.1 Q.1 R.1;have t2:=tr3 P.2 Q.2 R.2;have b1:=ff P.1 Q.1;have b2:=ff Q.1 R.1;unfold Tr at t1 t2;by_cases q1:o P.1 Q.1=0
 . rw[ae (by omega)]at h1;by_cases q2:o Q.1 R.1=0
   . rw[ae (by omega)]at h2;rw[ae (by omega)];omega
   . rw[ah q2]at h2;rw[ah (by omega)];omega
 . rw[ah q1]at h1;by_cases q2:o Q.1 R.1=0
   . rw[ah (by omega)];omega
   . rw[ah q2]at h2;rw[ah (by omega)];omega
def lcF (K:List PtG):Nat->Nat->List PtG->Nat
 |b,_,[]=>b
 |b,i,q::r=>if dC (pt q) (pt (atN K b))<0 then lcF K i (i+1) r else lcF K b (i+1) r
def lc (K:List PtG):Nat:=lcF K 0 0 K
theorem EC (K:List PtG):∀(r:List PtG)(b i:Nat),K.drop i=r->b<K.length->(∀m,m<i->¬dC (pt (atN K m)) (pt (atN K b))<0)->lcF K b i r<K.length/\∀m,m<K.length->¬dC (pt (atN K m)) (pt (atN K (lcF K b i r)))<0
 |[],b,i,h,hb,hm=>⟨hb,λm h2=>hm m (by have:=jB h;omega)⟩
 |q::r,b,i,h,hb,hm=>by
  have hi:=aK h;have hq:=ss h;unfold lcF;by_cases e:dC (pt q) (pt (atN K b))<0
  . rw[ah e];refine EC K r i (i+1) (an h) hi λm h2=> ?_
    rw[hq];by_cases e2:m=i
    . subst e2;rw[hq,wI];omega
    . intro h3;exact hm m (by omega) (Ay (by omega) e)
  . rw[ae e];refine EC K r b (i+1) (an h) hb λm h2=> ?_
    by_cases e2:m=i
    . subst e2;rw[hq];exact e
    . exact hm m (by omega)
theorem yg {K:List PtG}(h:K≠[]):lc K<K.length/\∀m,m<K.length->¬dC (pt (atN K m)) (pt (atN K (lc K)))<0:=
 EC K K 0 0 rfl (lB.2 h) λm hm=>by omega
theorem ED (K:List PtG):∀(r:List PtG)(i:Nat),(∀q∈r,¬dC (pt q) (pt (atN K 0))<0)->lcF K 0 i r=0
 |[],_,_=>rfl
 |q::r,i,h=>by unfold lcF;rw[ae (h q (bQ ..))];exact ED K r (i+1) λp hp=>h p (bk _ hp)
def bD (K:List PtG):List PtG:=K.drop (lc K)++K.take (lc K)
theorem qv (K:List PtG):(bD K).length=K.length:=by
 unfold bD;rw[aV,eV,da];by_cases h:K=[]
 . subst h;rfl
 . have:=(yg h).1;omega
theorem np {K:List PtG}{p:PtG}:p∈bD K↔p∈K:=by
 unfold bD;rw[aC]
 conv=>rhs;rw[<-gJ (lc K) K,aC]
 exact Or.comm
theorem F9 {K:List PtG}(h:K.Nodup):(bD K).Nodup:=by unfold bD;rw[<-gJ (lc K) K]at h;rw[cQ]at h⊢;exact⟨h.2.1,h.1,λa ha b hb e=>h.2.2 b hb a ha e.symm⟩
theorem J6 {K:List PtG}(h:K≠[]):atN (bD K) 0=atN K (lc K):=by have h1:=(yg h).1;unfold atN bD;rw[gI (by rw[eV];omega),nz,Nat.add_zero]
theorem wA {K:List PtG}(h:K≠[]):∀q∈bD K,¬dC (pt q) (pt (atN (bD K) 0))<0:=λq hq=>by rw[J6 h];obtain⟨m,hm,e⟩:=nw.1 (np.1 hq);have:=(yg h).2 m hm;rwa[show atN K m=q by unfold atN;rw[aL hm];exact e]at this
theorem Nc (K:List PtG):lc (bD K)=0:=by
 by_cases h:K=[]
 . subst h;rfl
 . exact ED _ _ 0 (wA h)
theorem yh {kk:Nat}(hkk:400≤kk)(K:List PtG)(hK:∀p∈K,okP p=true)(hlen:K.length≤40):∀(r:List PtG)(b i j:Nat){ρ:Type}(nx:((((Int×Unit)×Unit)->Option ρ)×Unit)),K.drop i=r->r.length+1≤j->b<K.length->
    iG kk j K (b:Int) K (K.length:Int) (i:Int) nx=nx.1 ((((lcF K b i r:Nat):Int),()),())
 |[],b,i,j,ρ,nx,h,hj,hb=>by
  obtain⟨j,rfl⟩:=aA hj;unfold iG;rw[aP h];rfl
 |q::r,b,i,j,ρ,nx,h,hj,hb=>by
  obtain⟨j,rfl⟩:=aA hj;have hi:=aK h;have ih:=λb(hb:b<K.length)=>yh hkk K hK hlen r b (i+1) j nx (an h) (by simp only[ax]at hj;omega) hb
  unfold iG;rw[aJ h,aE h,cN hb,ak (by omega)];simp only[ab,aa];rw[xL hkk (hK q (aX (aO h))) (hK _ (dA hb)),ih i hi,ih b hb];simp only[aa,lcF];by_cases e:dC (pt q) (pt (atN K b))<0
  . rw[ai e,ah e];rfl
  . rw[al e,ae e];rfl
theorem qf {kk:Nat}(hkk:400≤kk)(K:List PtG)(hK:∀p∈K,okP p=true)(hlen:K.length≤40)(hne:K≠[]):f213 kk K=some ((((lc K:Nat):Int),()),()):=by unfold f213;have:=yh hkk K hK hlen K 0 0 kk (ρ:=((Int×Unit)×Unit)) (λx10:((Int×Unit)×Unit)=>some ((x10.1.1,()),()),()) rfl (by omega) (lB.2 hne);rw[show((0:Nat):Int)=0 from rfl]at this;rw[this];rfl
theorem rZ {α:Type}(K:List α)(b:Nat):sub K (b:Int) (K.length:Int)=K.drop b:=by unfold Go.Proofs.YtlkkaielmdlefaaGreatDoor.R1.sub;rw[bK,bK,List.take_length]
theorem r6 {α:Type}(K:List α)(b:Nat):sub K 0 (b:Int)=K.take b:=by unfold Go.Proofs.YtlkkaielmdlefaaGreatDoor.R1.sub;rw[bK];rfl
theorem AA {kk:Nat}(hkk:400≤kk)(A B:List PtG)(hA:A.length≤100)(hB:B.length≤100):f214 kk [A,B]=some (((),()),(A++B,())):=by
 obtain⟨k,rfl⟩:∃m,kk=m+3:=⟨kk-3,by omega⟩;have g2:((A.length:Int)+(B.length:Int))=((A.length+B.length:Nat):Int):=by omega
 have hgrow:f236 (k+3) ((A.length+B.length:Nat):Int)=some (((),()),(([]:List PtG),())):=by
  unfold f236;rw[al (p:=((A.length+B.length:Nat):Int)<0) (by omega),aw (x:=(0:Int)-0) (by omega) (by omega),aw (x:=((A.length+B.length:Nat):Int)-(0-0)) (by omega) (by omega)];by_cases e:((A.length+B.length:Nat):Int)-(0-0)>0
  . rw[ai e,ai (p:=(0:Int)≤((A.length+B.length:Nat):Int)-(0-0)) (by omega),ai (p:=(((A.length+B.length:Nat):Int)-(0-0))*48≤(roomy:Int)) (by simp only[roomy];omega)];simp only[dL,ab,List.take_zero];rw[ai (p:=(0:Int)≤_) (Int.natCast_nonneg _)];rfl
  . rw[al e];rfl
 unfold f214 oL;rw[show(([A,B].length:Nat):Int)=2 from rfl,show decide ((0:Int)<2)=true from rfl,show aq [A,B] 0=some A from rfl];simp only[ab,aa];rw[aw (x:=(0:Int)+(A.length:Int)) (by omega) (by omega),kK,al (p:=(A.length:Int)<0) (by omega),show wr .i64 ((0:Int)+1)=1 by rfl];simp only[ac];unfold oL;rw[show decide ((1:Int)<2)=true from rfl,show aq [A,B] 1=some B from rfl];simp only[ab,aa];rw[aw (x:=(A.length:Int)+(B.length:Int)) (by omega) (by omega),al (p:=(A.length:Int)+(B.length:Int)<0) (by omega),show wr .i64 ((1:Int)+1)=2 by rfl];simp only[ac];unfold oL;rw[show decide ((2:Int)<2)=false from rfl];simp only[ac];rw[g2,hgrow];simp only[aa];unfold mu;rw[show(([A,B].length:Nat):Int)=2 from rfl,show decide ((0:Int)<2)=true from rfl,show aq [A,B] 0=some A from rfl];simp only[ab,aa];rw[ai (p:=(([]:List PtG).length+A.length)*48≤roomy) (by simp only[br,roomy];omega),show wr .i64 ((0:Int)+1)=1 by rfl];simp only[ab];unfold mu;rw[show decide ((1:Int)<2)=true from rfl,show aq [A,B] 1=some B from rfl];simp only[ab,aa];rw[ai (p:=((([]:List PtG)++A).length+B.length)*48≤roomy) (by simp only[List.nil_append,roomy];omega),show wr .i64 ((1:Int)+1)=2 by rfl];simp only[ab];unfold mu;rw[show decide ((2:Int)<2)=false from rfl];rfl
theorem yw {kk:Nat}(hkk:400≤kk)(K:List PtG)(hK:∀p∈K,okP p=true)(hlen:K.length≤40):f169 kk K=some (((),()),(bD K,())):=by
 unfold f169;by_cases h:K=[]
 . subst h;rfl
 . have hp:=lB.2 h;have h1:=(yg h).1;rw[show((K.length:Int)==0)=false from bo (by omega),qf hkk K hK hlen h];simp only[ac,aa];rw[ai (p:=(0:Int)≤((lc K:Nat):Int)) (by omega),ai (p:=((lc K:Nat):Int)≤(K.length:Int)) (by omega),ai (p:=(K.length:Int)≤(K.length:Int)) (by omega),rZ,r6,AA hkk _ _ (by rw[eV];omega) (by rw[da];omega)];rfl
theorem yL {kk:Nat}(hkk:400≤kk)(K:List PtG)(hK:∀p∈K,okP p=true)(hlen:K.length≤40):∀(r:List PtG)(b i j:Nat){ρ:Type}(nx:(((((List PtG)×Int×Unit)×Unit)->Option ρ)×Unit)),K.drop i=r->r.length+1≤j->b<K.length->
    po kk j K (b:Int) (i:Int) nx=nx.1 ((K,((lcF K b i r:Nat):Int),()),())
 |[],b,i,j,ρ,nx,h,hj,hb=>by
  obtain⟨j,rfl⟩:=aA hj;unfold po;rw[aP h];rfl
 |q::r,b,i,j,ρ,nx,h,hj,hb=>by
  obtain⟨j,rfl⟩:=aA hj;have hi:=aK h;have ih:=λb(hb:b<K.length)=>yL hkk K hK hlen r b (i+1) j nx (an h) (by simp only[ax]at hj;omega) hb
  unfold po;rw[aJ h,aE h,cN hb,ak (by omega)];simp only[ab,aa];rw[tJ hkk (hK q (aX (aO h))) (hK _ (dA hb)),ih i hi,ih b hb];simp only[aa,lcF];by_cases e:dC (pt q) (pt (atN K b))<0
  . rw[ai e,ah e];rfl
  . rw[al e,ae e];rfl
theorem Fk {kk:Nat}(hkk:400≤kk)(K:List PtG)(hK:∀p∈K,okP p=true)(hlen:K.length≤40):f74 kk K=some (((),()),(bD K,())):=by
 unfold f74;by_cases h:K=[]
 . subst h;obtain⟨k,rfl⟩:∃m,kk=m+1:=⟨kk-1,by omega⟩;rfl
 . obtain⟨q,r,rfl⟩:∃q r,K=q::r:=by cases K with
    |nil=>exact absurd rfl h
    |cons q r=>exact⟨q,r,rfl⟩
   have h1:=(yg h).1;have e:lc (q::r)=lcF (q::r) 0 1 r:=by unfold lc;rw[lcF,ae];rw[show atN (q::r) 0=q from rfl,wI];omega
   have:=yL hkk (q::r) hK hlen r 0 1 kk (ρ:=((Unit×Unit)×((List PtG)×Unit)))
    (λx11:(((List PtG)×Int×Unit)×Unit)=>
    bif decide (0≤x11.1.2.1)&&decide (x11.1.2.1≤(x11.1.1.length:Int))&&decide ((x11.1.1.length:Int)≤(x11.1.1.length:Int))then
     let x12:(List PtG):=(sub x11.1.1 x11.1.2.1 (x11.1.1.length:Int))
     bif decide ((([]:List PtG).length+x12.length)*48≤roomy)then
      let x13:(List PtG):=(([]:List PtG)++x12)
      bif decide (0≤0)&&decide (0≤x11.1.2.1)&&decide (x11.1.2.1≤(x11.1.1.length:Int))then
       bif decide ((x13.length+(sub x11.1.1 0 x11.1.2.1).length)*48≤roomy)then
        some (((),()),((x13++(sub x11.1.1 0 x11.1.2.1)),()))
       else
        none
      else
       none
     else
      none
    else
     none,
   ()) rfl (by simp only[ax]at hlen;omega) (by simp)
   rw[show((0:Nat):Int)=0 from rfl,show((1:Nat):Int)=1 from rfl]at this;rw[this,<-e];dsimp only;unfold bD;generalize hKg:q::r=K at*;have l1:(K.drop (lc K)).length≤40:=by rw[eV];omega
   have l2:(K.take (lc K)).length≤40:=by rw[da];omega
   rw[ai (p:=(0:Int)≤((lc K:Nat):Int)) (by omega),ai (p:=((lc K:Nat):Int)≤(K.length:Int)) (by omega),ai (p:=(K.length:Int)≤(K.length:Int)) (by omega),rZ,r6,
    ai (p:=(([]:List PtG).length+(K.drop (lc K)).length)*48≤roomy) (by simp only[br,roomy];omega)]
   rw[List.nil_append,ai (p:=((K.drop (lc K)).length+(K.take (lc K)).length)*48≤roomy) (by simp only[roomy];omega)];rfl
theorem TD {α:Type}(A M B:List α)(x y:α):((A++(x::M++[y])++B).set A.length y).set (A.length+M.length+1) x=(A++[y])++M++([x]++B):=by simp only[bL,List.cons_append,List.nil_append];rw[vI _ _ (aM _),o5,List.set_cons_zero,vI _ _ (by omega),show A.length+M.length+1-A.length=M.length+1 by omega,List.set_cons_succ,vI _ _ (aM _),o5,List.set_cons_zero]
theorem OZ {kk:Nat}:∀(n:Nat)(A M B:List PtG)(j:Nat){ρ:Type}(nx:(((Unit×((List PtG)×Unit))->Option ρ)×Unit)),M.length≤n->n+1≤j->A.length+M.length+B.length≤1000->
    oD kk j (A.length:Int) ((A.length:Int)+(M.length:Int)-1) (A++M++B) nx=nx.1 ((),(A++M.reverse++B,())):=by
 intro n
 induction n with
 |zero=>
  intro A M B j ρ nx hM hj hlen;obtain⟨j,rfl⟩:=aA hj;unfold oD;rw[eJ (by omega),lA.1 (Nat.le_zero.1 hM)];rfl
 |succ n ih=>
  intro A M B j ρ nx hM hj hlen;obtain⟨j,rfl⟩:=aA hj;unfold oD
  match M with
  |[]=>rw[eJ (by simp only[br];omega)];rfl
  |[x]=>rw[eJ (by simp only[ax,br];omega)];rfl
  |x::z::r=>
   obtain⟨M',y,e⟩:∃M' y,z::r=M'++[y]:=⟨(z::r).dropLast,(z::r).getLast (by simp),(List.dropLast_concat_getLast (by simp)).symm⟩;rw[e]at hM hlen⊢;have lM:(x::(M'++[y])).length=M'.length+2:=by simp only[ax,aV,br]
   rw[lM]at hM hlen⊢;have hi:(A.length:Int)+((M'.length+2:Nat):Int)-1=((A.length+M'.length+1:Nat):Int):=by omega
   have hl:(A++x::(M'++[y])++B).length=A.length+M'.length+2+B.length:=by simp only[aV,ax,br];omega
   have g1:(A++x::(M'++[y])++B)[A.length+M'.length+1]? =some y:=by rw[bL,jJ (by omega),show A.length+M'.length+1-A.length=M'.length+1 by omega,List.cons_append,List.getElem?_cons_succ,bL,jJ (aM _),o5];rfl
   have g2:(A++x::(M'++[y])++B)[A.length]? =some x:=by rw[bL,jJ (aM _),o5];rfl
   have g3:((A++x::(M'++[y])++B).set A.length y)[A.length+M'.length+1]? =some y:=by rw[nF (by omega)];exact g1
   rw[hi,dlt (show(A.length:Int)<((A.length+M'.length+1:Nat):Int) by omega)];rw[bnd (show A.length+M'.length+1<(A++x::(M'++[y])++B).length by omega),bnd (show A.length<(A++x::(M'++[y])++B).length by omega),bK,bK,g1];simp only[ab,aa];rw[g2];simp only[aa];rw[bnd (show A.length+M'.length+1<((A++x::(M'++[y])++B).set A.length y).length by rw[ch];omega),g3];simp only[ab,aa];rw[ak (by omega),aw (by omega) (by omega)];have key:=TD A M' B x y;rw[show A++(x::M'++[y])++B=A++x::(M'++[y])++B by simp]at key;rw[key];have:=ih (A++[y]) M' ([x]++B) j nx (by omega) (by omega) (by simp only[aV,ax,br];omega);rw[show((A++[y]).length:Int)=((A.length+1:Nat):Int) by rw[aV];rfl,show((A.length+1:Nat):Int)+(M'.length:Int)-1=((A.length+M'.length+1:Nat):Int)-1 by omega]at this;rw[this];simp
theorem JB {kk:Nat}(K:List PtG)(h:K.length+1≤kk)(hlen:K.length≤1000):f168 kk K=some ((),(K.reverse,())):=by unfold f168;have:=OZ (kk:=kk) K.length [] K [] kk (ρ:=(Unit×((List PtG)×Unit))) (λx9:(Unit×((List PtG)×Unit))=>some ((),(x9.2.1,())),()) (aM _) (by omega) (by simp;omega);simp only[br,List.nil_append,eO]at this;rw[show((0:Nat):Int)+(K.length:Int)-1=(K.length:Int)-1 by omega,show((0:Nat):Int)=0 from rfl]at this;rw[aw (by omega) (by omega),this]
theorem LK {kk:Nat}(K:List PtG)(hlen:K.length≤1000):∀(n j:Nat)(acc:List PtG){ρ:Type}(nx:((((Unit×Unit)×((List PtG)×Unit))->Option ρ)×Unit)),n≤K.length->n+1≤j->acc.length+n≤1000->
    rN kk j K ((n:Int)-1) acc nx=nx.1 (((),()),(acc++(K.take n).reverse,())):=by
 intro n
 induction n with
 |zero=>
  intro j acc ρ nx _ hj _;obtain⟨j,rfl⟩:=aA hj;unfold rN;rw[al (by omega)];simp
 |succ n ih=>
  intro j acc ρ nx hn hj ha;obtain⟨j,rfl⟩:=aA hj;unfold rN;rw[show((n+1:Nat):Int)-1=(n:Int) by omega,ai (p:=(n:Int)≥0) (by omega),cN (show n<K.length by omega)];simp only[ab,aa];rw[ai (p:=(acc.length+[atN K n].length)*48≤roomy) (by simp only[ax,br,roomy];omega),aw (by omega) (by omega),ab,ih j _ nx (by omega) (by omega) (by rw[aV];simp;omega)]
  congr 3
  rw[bL]
  congr 1
  rw[List.take_add_one,xB (show n<K.length by omega)];simp
theorem FQ {kk:Nat}(K:List PtG)(h:K.length+1≤kk)(hlen:K.length≤1000):f77 kk K=some (((),()),(K.reverse,())):=by unfold f77;have:=LK (kk:=kk) K hlen K.length kk [] (ρ:=((Unit×Unit)×((List PtG)×Unit))) (λx6:((Unit×Unit)×((List PtG)×Unit))=>some (((),()),(x6.2.1,())),()) (aM _) (by omega) (by simp;omega);rw[List.take_length]at this;rw[aw (by omega) (by omega),this];rfl
theorem Ji :∀x:Fin 48,fc .i64 ((x.val:Int)-16) 15=((x.val:Int)-16)%16:=by decide+kernel
theorem VT {x:Int}(h0: -16≤x)(h1:x<32):fc .i64 x 15=x%16:=by have:=Ji ⟨(x+16).toNat,by omega⟩;simp only at this;rwa[show((x+16).toNat:Int)-16=x by omega]at this
theorem SB :∀x:Fin 48,(wr .i64 ((((x.val:Int)-16).tmod 16)+16)).tmod 16=((x.val:Int)-16)%16:=by decide+kernel
theorem KZ (kk:Nat){x:Int}(h0: -16≤x)(h1:x<32):f131 kk x=some ((x%16,()),()):=by have:=SB ⟨(x+16).toNat,by omega⟩;simp only at this;rw[show((x+16).toNat:Int)-16=x by omega]at this;unfold f131;rw[this]
def tok (b d:Int):Bool:=decide (1≤(d-b)%16)&&decide ((d-b)%16≤7)
def okT :Int->List Int->Bool
 |_,[]=>true
 |b,d::r=>tok b d&&okT d r
def smT :Int->List Int->Int
 |_,[]=>0
 |b,d::r=>(d-b)%16+smT d r
def lst :Int->List Int->Int
 |b,[]=>b
 |_,d::r=>lst d r
theorem EO (x:Int):∀(r:List Int)(b:Int),okT b (r++[x])=(okT b r&&tok (lst b r) x)
 |[],b=>by simp[okT,lst]
 |d::r,b=>by simp only[List.cons_append,okT,lst];rw[EO x r d,Bool.and_assoc]
theorem Fa (x:Int):∀(r:List Int)(b:Int),smT b (r++[x])=smT b r+(x-lst b r)%16
 |[],b=>by simp[smT,lst]
 |d::r,b=>by simp only[List.cons_append,smT,lst];rw[Fa x r d];omega
def dsF (l:List PtG):Nat->List PtG->List Int
 |_,[]=>[]
 |i,q::r=>aI q (atN l ((i+1)%l.length))::dsF l (i+1) r
def gN (l:List PtG):List Int:=dsF l 0 l
theorem zg (l:List PtG):∀(i:Nat)(r:List PtG),(dsF l i r).length=r.length
 |_,[]=>rfl
 |i,q::r=>by unfold dsF;rw[ax,ax,zg l (i+1) r]
theorem uW (l:List PtG):∀(r:List PtG)(i:Nat)(b:Int),l.drop i=r->r≠[]->lst b (dsF l i r)=aI (atN l (l.length-1)) (atN l 0)
 |[],_,_,_,h=>absurd rfl h
 |[q],i,b,h,_=>by
  have h1:=aK h;have h2:=jB (an h);unfold dsF lst dsF lst;rw[<-ss h,show i=l.length-1 by omega,show l.length-1+1=l.length by omega,Nat.mod_self]
 |q::p::r,i,b,h,_=>by unfold dsF lst;exact uW l (p::r) (i+1) _ (an h) (by simp)
def kX (l:List PtG):Bool:=(gN l).all (λd=>decide (d≠ -1))&&(okT (aI (atN l (l.length-1)) (atN l 0)) (gN l)&&decide (smT (aI (atN l (l.length-1)) (atN l 0)) (gN l)=16))
theorem dQ (p q:PtG):aI p q= -1\/(0≤aI p q/\aI p q<16):=by
 rcases mM (aD (pt q) (pt p))with h|h
 . exact .inl h
 . exact .inr ⟨h.1,h.2.1⟩
theorem AB {kk:Nat}(hkk:400≤kk)(l:List PtG)(hl:∀p∈l,okP p=true)(hlen:l.length≤40):∀(r:List PtG)(i j:Nat)(s b:Int){ρ:Type}(nx:((((Int×Unit)×Unit)->Option ρ)×(((Bool×Unit)×Unit)->Option ρ)×Unit)),l.drop i=r->r.length+1≤j->(0≤s/\s≤7*i)->(0≤b/\b<16)->
    mq kk j l (l.length:Int) s b l (l.length:Int) (i:Int) nx=bif(dsF l i r).all (λd=>decide (d≠ -1))&&okT b (dsF l i r)then nx.1 ((s+smT b (dsF l i r),()),())else nx.2.1 ((false,()),())
 |[],i,j,s,b,ρ,nx,h,hj,hs,hb=>by
  obtain⟨j,rfl⟩:=aA hj;unfold mq;rw[aP h];simp[dsF,okT,smT]
 |q::r,i,j,s,b,ρ,nx,h,hj,hs,hb=>by
  obtain⟨j,rfl⟩:=aA hj;have hi:=aK h;have hpos:0<l.length:=by omega
  have m2:(i+1)%l.length<l.length:=gM _ hpos;have hq:okP q=true:=hl q (aX (aO h));have ih:=λs b hs hb=>AB hkk l hl hlen r (i+1) j s b nx (an h) (by simp only[ax]at hj;omega) hs hb
  have hr:=dQ q (atN l ((i+1)%l.length));unfold mq;rw[aJ h,aE h,al (p:=(l.length:Int)=0) (by omega),fF hpos (by omega)];simp only[ab,ac,aa];rw[cN m2];simp only[aa];rw[mU hkk hq (hl _ (dA m2))];simp only[aa,dsF,List.all_cons,okT,smT];generalize aI q (atN l ((i+1)%l.length))=d at*;unfold f231;rw[aw (x:=d-b) (by omega) (by omega),VT (by omega) (by omega)];simp only[aa];rcases hr with rfl|hr
  . simp
  . rw[al (p:=d<0) (by omega),al (p:=b<0) (by omega),inI];simp only[aa,ac];rw[show decide (d≠ -1)=true from ai (by omega),bj];show(bif !tok b d then _ else _)=_
    cases ht:tok b d with
    |false=>simp
    |true=>have ht':=ht;unfold tok at ht';simp only[aH,bT]at ht';simp only[bi,ac,bj];rw[aw (x:=s+(d-b)%16) (by omega) (by omega),ak (by omega),ih _ _ (by omega) hr,mJ]
theorem Kv {kk:Nat}(hkk:400≤kk)(l:List PtG)(hl:∀p∈l,okP p=true)(hlen:l.length≤40):f203 kk l=some ((decide (3≤l.length)&&kX l,()),()):=by
 unfold f203;by_cases h3:l.length<3
 . rw[ai (p:=(l.length:Int)<3) (by omega),al (p:=3≤l.length) (by omega)];rfl
 . have hpos:0<l.length:=by omega
   rw[al (p:=(l.length:Int)<3) (by omega),ai (p:=3≤l.length) (by omega),aw (by omega) (by omega),show(l.length:Int)-1=((l.length-1:Nat):Int) by omega,cN (show l.length-1<l.length by omega),show aq l 0=some (atN l 0)from cN hpos];simp only[ac,aa];rw[mU hkk (hl _ (dA (by omega))) (hl _ (dA hpos))];simp only[aa]
   obtain⟨q,r,e⟩:∃q r,l=q::r:=by cases l with
    |nil=>simp at hpos
    |cons q r=>exact⟨q,r,rfl⟩
   have hlst:=uW l l 0 0 rfl (by rw[e];simp);rcases dQ (atN l (l.length-1)) (atN l 0)with hb|hb
   ·
    have hm:kX l=false:=by
     unfold kX
     have:(gN l).all (λd=>decide (d≠ -1))=false:=by
      rw[List.all_eq_false];refine⟨-1,?_,by simp⟩;rw[<-hb,<-hlst]
      have:∀(D:List Int)(b:Int),D≠[]->lst b D∈D:=λD=>by
       induction D with
       |nil=>intro b h;exact absurd rfl h
       |cons d r ih=>
        intro b _;unfold lst
        cases r with
        |nil=>exact bQ ..
        |cons e r=>exact bk _ (ih d (by simp))
      exact this _ _ (λe2=>by have h5:(gN l).length=l.length:=zg l 0 l;rw[e2]at h5;simp at h5;omega)
     rw[this];rfl
    rw[hm,hb];obtain⟨k,rfl⟩:∃m,kk=m+1:=⟨kk-1,by omega⟩;unfold mq;have m2:(0+1)%l.length<l.length:=gM _ hpos;rw[ai (p:=(0:Int)<(l.length:Int)) (by omega),show aq l 0=some (atN l 0)from cN hpos,al (p:=(l.length:Int)=0) (by omega)];have hn:=fF (i:=0) hpos (by omega);rw[show((0:Nat):Int)=0 from rfl]at hn;rw[hn];simp only[ab,ac,aa];rw[cN m2];simp only[aa];rw[mU hkk (hl _ (dA hpos)) (hl _ (dA m2))];simp only[aa];unfold f231;simp only[aa];cases decide (aI (atN l 0) (atN l ((0+1)%l.length))<0)<;>rfl
   . have:=AB hkk l hl hlen l 0 kk 0 (aI (atN l (l.length-1)) (atN l 0)) (ρ:=((Bool×Unit)×Unit)) (λx21:((Int×Unit)×Unit)=>some (((x21.1.1==16),()),()),
     λx22:((Bool×Unit)×Unit)=>some ((x22.1.1,()),()),
     ()) rfl (by omega) (by omega) hb
     rw[show((0:Nat):Int)=0 from rfl]at this;rw[this];unfold kX gN
     cases h:(dsF l 0 l).all (λd=>decide (d≠ -1))&&okT (aI (atN l (l.length-1)) (atN l 0)) (dsF l 0 l)with
     |false=>
      rw[bj,<-Bool.and_assoc,h];rfl
     |true=>rw[bj,<-Bool.and_assoc,h,kK];rfl
def fm (l:List PtG):Bool:=decide (3≤l.length)&&(decide (l.length≤16)&&kX l)
theorem Ey {kk:Nat}(l:List PtG)(hl:∀p∈l,okP p=true)(hlen:l.length≤1000):∀(r:List PtG)(i j:Nat){ρ:Type}(nx:(((Unit×Unit)->Option ρ)×(((Int×Unit)×Unit)->Option ρ)×Unit)),l.drop i=r->r.length+1≤j->
    oQ kk j l (l.length:Int) (i:Int) nx=nx.1 ((),())
 |[],i,j,ρ,nx,h,hj=>by
  obtain⟨j,rfl⟩:=aA hj;unfold oQ;rw[aP h];rfl
 |q::r,i,j,ρ,nx,h,hj=>by obtain⟨j,rfl⟩:=aA hj;have hi:=aK h;unfold oQ;rw[aJ h,aE h,ak (by omega)];simp only[ab,aa];unfold f212;rw[yN kk q,hl q (aX (aO h))];simp only[aa,bi,ac];exact Ey l hl hlen r (i+1) j nx (an h) (by simp only[ax]at hj;omega)
theorem By {kk:Nat}(l:List PtG)(hl:∀p∈l,okP p=true)(hlen:l.length+1≤kk)(hlen2:l.length≤1000):f166 kk l=some ((true,()),()):=by unfold f166 f211 f235;have:=Ey (kk:=kk) l hl hlen2 l 0 kk (ρ:=((Int×Unit)×Unit)) (λx8:(Unit×Unit)=>some (((-1),()),()),λx9:((Int×Unit)×Unit)=>some ((x9.1.1,()),()),()) rfl hlen;rw[show((0:Nat):Int)=0 from rfl]at this;rw[this];rfl
theorem uN {kk:Nat}(hkk:400≤kk)(K:List PtG)(hK:∀p∈K,okP p=true)(hlen:K.length≤40):f170 kk (bD K)=some ((fm (bD K),()),()):=by
 have hl:∀p∈bD K,okP p=true:=λp hp=>hK p (np.1 hp)
 have hl2:=qv K;unfold f170 fm;rw[KU,aa];dsimp only;rw[inI,aa];dsimp only;by_cases h3:3≤(bD K).length
 . by_cases h16:(bD K).length≤16
   . rw[ai (p:=(3:Int)≤((bD K).length:Int)) (by omega),ai (p:=((bD K).length:Int)≤16) (by omega),By (bD K) hl (by omega) (by omega),Kv hkk (bD K) hl (by omega),qf hkk (bD K) hl (by omega) (λe=>by rw[e]at h3;simp at h3),Nc,ai h3,ai h16];simp only[aa,dL,ab,bj];cases kX (bD K)<;>rfl
   . rw[al (p:=((bD K).length:Int)≤16) (by omega),al h16];simp
 . rw[al (p:=(3:Int)≤((bD K).length:Int)) (by omega),al h3];rfl
theorem BD {kk:Nat}(l:List PtG)(hlen:l.length≤1000):∀(r:List PtG)(i j:Nat)(acc:List PtG){ρ:Type}(nx:((((Unit×Unit)×((List PtG)×Unit))->Option ρ)×Unit)),l.drop i=r->r.length+1≤j->acc.length≤i->
    oi kk j l (i:Int) acc nx=nx.1 (((),()),(acc++r,()))
 |[],i,j,acc,ρ,nx,h,hj,ha=>by
  obtain⟨j,rfl⟩:=aA hj;unfold oi;rw[aP h];simp
 |q::r,i,j,acc,ρ,nx,h,hj,ha=>by obtain⟨j,rfl⟩:=aA hj;have hi:=aK h;unfold oi;rw[aJ h,aE h];simp only[ab,aa];rw[yo kk q,ak (by omega)];simp only[aa];rw[ai (p:=(acc.length+_)*48≤roomy) (by simp only[ax,br,roomy];omega),ab];have:=BD (kk:=kk) l hlen r (i+1) j (acc++[q]) nx (an h) (by simp only[ax]at hj;omega) (by rw[aV];simp;omega);rw[bL]at this;exact this
theorem HM {kk:Nat}(l:List PtG)(hlen:l.length+1≤kk)(hlen2:l.length≤1000):f130 kk l=some (((),()),(l,())):=by unfold f130;have:=BD (kk:=kk) l hlen2 l 0 kk [] (ρ:=((Unit×Unit)×((List PtG)×Unit))) (λx8:((Unit×Unit)×((List PtG)×Unit))=>some (((),()),(x8.2.1,())),()) rfl hlen (by simp);rw[show((0:Nat):Int)=0 from rfl]at this;rw[this];rfl
theorem yD {kk:Nat}(hkk:400≤kk)(l:List PtG)(hl:∀p∈l,okP p=true)(hlen:l.length≤40):∀(r:List PtG)(i j:Nat)(acc:List Int){ρ:Type}(nx:((((Unit×Unit)×((List Int)×Unit))->Option ρ)×(((Unit×Bool×Unit)×Unit)->Option ρ)×Unit)),l.drop i=r->r.length+1≤j->acc.length≤i->
    oh kk j l (i:Int) acc nx=bif(dsF l i r).all (λd=>decide (d≠ -1))then nx.1 (((),()),(acc++dsF l i r,()))else nx.2.1 (((),false,()),())
 |[],i,j,acc,ρ,nx,h,hj,ha=>by
  obtain⟨j,rfl⟩:=aA hj;unfold oh;rw[aP h];simp[dsF]
 |q::r,i,j,acc,ρ,nx,h,hj,ha=>by
  obtain⟨j,rfl⟩:=aA hj;have hi:=aK h;have hpos:0<l.length:=by omega
  have m2:(i+1)%l.length<l.length:=gM _ hpos;have hq:okP q=true:=hl q (aX (aO h));have ih:=λacc ha=>yD hkk l hl hlen r (i+1) j acc nx (an h) (by simp only[ax]at hj;omega) ha
  have hr:=dQ q (atN l ((i+1)%l.length));obtain⟨u1,u2,u3,u4,u5,u6,a1,a2⟩:=qW (kk:=kk) hkk hq (hl _ (dA m2));unfold oh;rw[aJ h,aE h,al (p:=(l.length:Int)=0) (by omega),fF hpos (by omega)];simp only[ab,ac,aa];rw[cN m2];simp only[aa];rw[a1];simp only[aa];rw[a2];simp only[aa,dsF,List.all_cons];generalize aI q (atN l ((i+1)%l.length))=d at*;rcases hr with rfl|hr
  . simp
  . rw[al (p:=d<0) (by omega),show decide (d≠ -1)=true from ai (by omega),bj,ai (p:=(acc.length+[d].length)*8≤roomy) (by simp only[ax,br,roomy];omega),ak (by omega)];simp only[ac,ab];rw[ih _ (by rw[aV];simp;omega),bL];rfl
theorem E9 {kk:Nat}(hkk:400≤kk)(l:List PtG)(hl:∀p∈l,okP p=true)(hlen:l.length≤40):f129 kk l=bif(gN l).all (λd=>decide (d≠ -1))then some (((),true,()),(gN l,()))else some (((),false,()),([],())):=by
 unfold f129
 have:=yD hkk l hl hlen l 0 kk [] (ρ:=((Unit×Bool×Unit)×((List Int)×Unit))) (λx10:((Unit×Unit)×((List Int)×Unit))=>
     some (((),true,()),(x10.2.1,())),
  λx11:((Unit×Bool×Unit)×Unit)=>some (((),x11.1.2.1,()),(([]:List Int),())),
  ()) rfl (by omega) (by simp)
 rw[show((0:Nat):Int)=0 from rfl]at this;rw[this];rfl
theorem wa {kk:Nat}(hkk:400≤kk)(l:List PtG)(hl:∀p∈l,okP p=true)(hlen:l.length≤40)(hlt:∀m,0<m->m<l.length->dC (pt (atN l 0)) (pt (atN l m))<0):∀(r:List PtG)(i j:Nat){ρ:Type}(nx:(((((List PtG)×Int×Unit)×Unit)->Option ρ)×(((Bool×Unit)×Unit)->Option ρ)×Unit)),l.drop i=r->r.length+1≤j->
    pq kk j l (l.length:Int) (i:Int) nx=nx.1 ((l,(l.length:Int),()),())
 |[],i,j,ρ,nx,h,hj=>by
  obtain⟨j,rfl⟩:=aA hj;unfold pq;rw[aP h];rfl
 |q::r,i,j,ρ,nx,h,hj=>by
  obtain⟨j,rfl⟩:=aA hj;have hi:=aK h;have hq:okP q=true:=hl q (aX (aO h));have h0:0<l.length:=by omega
  have ih:=wa hkk l hl hlen hlt r (i+1) j nx (an h) (by simp only[ax]at hj;omega);unfold pq;rw[aJ h,aE h,ak (by omega),ih,show aq l 0=some (atN l 0)from cN h0];simp only[ab,aa];rw[A9 kk q,hq];simp only[aa,bi,ac];by_cases e:i=0
  . subst e;rw[al (by omega)];rfl
  . rw[ai (p:=(i:Int)>0) (by omega),tJ hkk (hl _ (dA h0)) hq];have:=hlt i (by omega) hi;rw[ss h]at this;simp only[aa,ab];rw[al (p:=dC (pt (atN l 0)) (pt q)≥0) (by omega)];rfl
theorem wB {kk:Nat}(D:List Int)(d0:Int)(rest:List Int)(hD:D=d0::rest)(hd:∀d∈D,0≤d/\d<16)(hlen:D.length≤40):∀(r:List Int)(d:Int)(i j:Nat)(s:Int){ρ:Type}(nx:((((Int×Unit)×Unit)->Option ρ)×(((Bool×Unit)×Unit)->Option ρ)×Unit)),D.drop i=d::r->r.length+2≤j->(0≤s/\s≤7*i)->
    kw kk j (D.length:Int) s (i:Int) D nx=bif okT d (r++[d0])then nx.1 ((s+smT d (r++[d0]),()),())else nx.2.1 ((false,()),())
 |[],d,i,j,s,ρ,nx,h,hj,hs=>by
  obtain⟨j,rfl⟩:∃m,j=m+2:=⟨j-2,by omega⟩;have hi:=aK h;have hn:=jB (an h);have h0:0<D.length:=by omega
  have hdd:=hd d (aX (aO h));have hd0:=hd d0 (by rw[hD];exact bQ ..);unfold kw;rw[bnd hi,aJ h,al (p:=(D.length:Int)=0) (by omega),fF h0 (by omega),show i+1=D.length by omega,Nat.mod_self,bnd h0,bK,bK,aO h,show D[0]? =some d0 by rw[hD];rfl];simp only[ab,ac,aa];rw[aw (x:=d0-d) (by omega) (by omega),KZ kk (by omega) (by omega)];simp only[aa];rw[inS];simp only[aa,List.nil_append,okT,smT,oZ];show(bif !tok d d0 then _ else _)=_
  cases ht:tok d d0 with
  |false=>rfl
  |true=>
   unfold tok at ht;simp only[aH,bT]at ht;simp only[bi,ac,ab];unfold kw;rw[ak (by omega),eJ (show(D.length:Int)≤((i+1:Nat):Int) by omega),aw (x:=s+(d0-d)%16) (by omega) (by omega),Int.add_zero];rfl
 |e::r,d,i,j,s,ρ,nx,h,hj,hs=>by
  obtain⟨j,rfl⟩:=aA hj;have hi:=aK h;have hn:=aK (an h);have hdd:=hd d (aX (aO h));have hde:=hd e (aX (aO (an h)));have ih:=λs hs=>wB (kk:=kk) D d0 rest hD hd hlen r e (i+1) j s nx (an h) (by simp only[ax]at hj;omega) hs
  unfold kw;rw[bnd hi,aJ h,al (p:=(D.length:Int)=0) (by omega),fF (show 0<D.length by omega) (by omega),jM hn,bnd hn,bK,bK,aO h,aO (an h)];simp only[ab,ac,aa];rw[aw (x:=e-d) (by omega) (by omega),KZ kk (by omega) (by omega)];simp only[aa];rw[inS];simp only[aa,List.cons_append,okT,smT];show(bif !tok d e then _ else _)=_
  cases ht:tok d e with
  |false=>rfl
  |true=>unfold tok at ht;simp only[aH,bT]at ht;simp only[bi,ac,bj];rw[ak (by omega),aw (x:=s+(e-d)%16) (by omega) (by omega),ih _ (by omega),mJ]
theorem ET {kk:Nat}(hkk:400≤kk)(K:List PtG)(hK:∀p∈K,okP p=true)(hn:K.Nodup)(hlen:K.length≤40):f75 kk (bD K)=some ((fm (bD K),()),()):=by
 have hl:∀p∈bD K,okP p=true:=λp hp=>hK p (np.1 hp)
 have hl2:=qv K;have hn2:=F9 hn;unfold f75 fm;by_cases h3:3≤(bD K).length
 . rw[al (p:=((bD K).length:Int)<3) (by omega),ai h3];by_cases h16:(bD K).length≤16
   . rw[al (p:=((bD K).length:Int)>16) (by omega),ai h16];simp only[ac,bj];have hne:K≠[]:=λe=>by subst e;rw[hl2]at h3;simp at h3
     have hlt:∀m,0<m->m<(bD K).length->dC (pt (atN (bD K) 0)) (pt (atN (bD K) m))<0:=λm m0 m1=>by
      have h1:=wA hne _ (dA m1);rw[Mu]at h1;by_cases e:dC (pt (atN (bD K) 0)) (pt (atN (bD K) m))=0
      . have e2:=Wb (hl _ (dA (by omega))) (hl _ (dA m1)) (Mv e);have:(bD K)[0]? =(bD K)[m]? :=by rw[xB m1,xB (show 0<(bD K).length by omega),e2]
        rw[aL (by omega),aL m1]at this;exact absurd ((List.getElem_inj hn2).1 (dk this)) (by omega)
      . omega
     generalize hT:bD K=l at*
     have a1:=wa hkk l hl (by omega) hlt l 0 kk (ρ:=((Bool×Unit)×Unit)) (λx27:(((List PtG)×Int×Unit)×Unit)=>
         (f130 kk x27.1.1).bind λx28=>
         (f129 kk x28.2.1).bind λx29=>
         bif(!x29.1.2.1)then
          some ((false,()),())
         else
          kw kk kk x27.1.2.1 0 0 x29.2.1
           (λx30:((Int×Unit)×Unit)=>some (((x30.1.1==16),()),()),
           λx31:((Bool×Unit)×Unit)=>some ((x31.1.1,()),()),
           ()),
      λx32:((Bool×Unit)×Unit)=>some ((x32.1.1,()),()),
      ()) rfl (by omega)
     rw[show((0:Nat):Int)=0 from rfl]at a1;rw[a1];dsimp only;rw[HM l (by omega) (by omega),aa];dsimp only;rw[E9 hkk l hl (by omega)];unfold kX
     cases hall:(gN l).all (λd=>decide (d≠ -1))with
     |false=>rfl
     |true=>
      simp only[ab,aa,bi,ac,bj]
      have hr:∀d∈gN l,0≤d/\d<16:=λd hd=>by
       have h1:=dj.1 hall d hd;simp only[bT]at h1
       have:∀(r:List PtG)(i:Nat),d∈dsF l i r->d= -1\/(0≤d/\d<16):=λr=>by
        induction r with
        |nil=>intro i h;cases h
        |cons q r ih=>
         intro i h;unfold dsF at h;rcases aG.1 h with h|h
         . rw[h];exact dQ _ _
         . exact ih _ h
       exact(this l 0 hd).resolve_left h1
      have hlen2:(gN l).length=l.length:=zg l 0 l;have hlst:=uW l l 0 0 rfl (λe=>by rw[e]at h3;simp at h3);change lst 0 (gN l)=_ at hlst
      cases hD:gN l with
      |nil=>rw[hD]at hlen2;simp at hlen2;omega
      |cons d0 rest=>
       have a2:=wB (kk:=kk) (gN l) d0 rest hD hr (by omega) rest d0 0 kk 0 (ρ:=((Bool×Unit)×Unit)) (λx30:((Int×Unit)×Unit)=>
             some (((x30.1.1==16),()),()),
           λx31:((Bool×Unit)×Unit)=>some ((x31.1.1,()),()),
           ()) (by rw[hD];rfl) (by rw[hD]at hlen2;simp only[ax]at hlen2;omega) (by omega)
       rw[show((0:Nat):Int)=0 from rfl,hlen2,hD]at a2;rw[a2];rw[hD]at hlst;unfold lst at hlst;rw[<-hlst,EO,Fa,kK];rw[show okT (lst d0 rest) (d0::rest)=(tok (lst d0 rest) d0&&okT d0 rest)from rfl,show smT (lst d0 rest) (d0::rest)=(d0-lst d0 rest)%16+smT d0 rest from rfl,show smT d0 rest+(d0-lst d0 rest)%16=(d0-lst d0 rest)%16+smT d0 rest by omega,Bool.and_comm];cases tok (lst d0 rest) d0&&okT d0 rest<;>rfl
   . rw[ai (p:=((bD K).length:Int)>16) (by omega),al h16];rfl
 . rw[ai (p:=((bD K).length:Int)<3) (by omega),al h3];rfl
def fh (K:List PtG):List PtG:=if fm (bD K)=true then bD K else bD K.reverse
def jd (K:List PtG):Bool:=fm (bD K)||fm (bD K.reverse)
theorem K5 {kk:Nat}(hkk:400≤kk)(K:List PtG)(hK:∀p∈K,okP p=true)(hlen:K.length≤40):∃P,f114 kk K=some (((),jd K,()),(P,()))/\(jd K=true->P=fh K):=by
 have hR:∀p∈K.reverse,okP p=true:=λp hp=>hK p (pU.1 hp)
 have hlr:K.reverse.length=K.length:=eU;unfold f114;rw[By K hK (by omega) (by omega),aa];simp only[bi,ac];by_cases h16:K.length≤16
 . rw[al (p:=(K.length:Int)>16) (by omega)];have hcl:f167 kk K=some (((),()),(K,())):=by unfold f167;rw[ai (p:=(([]:List PtG).length+K.length)*48≤roomy) (by simp only[br,roomy];omega)];rfl
   rw[hcl];simp only[ac,aa];rw[JB K (by omega) (by omega)];simp only[aa];obtain⟨k,hk⟩:∃m,kk=m+3:=⟨kk-3,by omega⟩;have r1:=yw hkk K hK hlen;have r2:=yw hkk K.reverse hR (by omega);have v1:=uN hkk K hK hlen;have v2:=uN hkk K.reverse hR (by omega)
   have step1:∀(j:Nat){ρ:Type}(nx:(((Unit×Unit)->Option ρ)×(((Unit×Bool×Unit)×((List PtG)×Unit))->Option ρ)×Unit)),lN kk (j+3) 2 0 [K,K.reverse] nx=bif fm (bD K)then nx.2.1 (((),true,()),(bD K,()))else bif fm (bD K.reverse)then nx.2.1 (((),true,()),(bD K.reverse,()))else nx.1 ((),()):=by
    intro j ρ nx;unfold lN;rw[show decide ((0:Int)<2)=true from rfl,show(([K,K.reverse].length:Nat):Int)=2 from rfl,show(decide ((0:Int)≤0)&&decide ((0:Int)<2))=true from rfl,show[K,K.reverse][(0:Int).toNat]? =some K from rfl];simp only[ab,aa];rw[r1];simp only[aa];rw[v1];simp only[aa]
    cases fm (bD K)with
    |true=>rfl
    |false=>
     simp only[ac];rw[show wr .i64 ((0:Int)+1)=1 by rfl];unfold lN;rw[show decide ((1:Int)<2)=true from rfl,show(([K,K.reverse].length:Nat):Int)=2 from rfl,show(decide ((0:Int)≤1)&&decide ((1:Int)<2))=true from rfl,show[K,K.reverse][(1:Int).toNat]? =some K.reverse from rfl];simp only[ab,aa];rw[r2];simp only[aa];rw[v2];simp only[aa]
     cases fm (bD K.reverse)with
     |true=>rfl
     |false=>simp only[ac];rw[show wr .i64 ((1:Int)+1)=2 by rfl];unfold lN;rfl
   rw[show(([K,K.reverse].length:Nat):Int)=2 from rfl]
   have s2:=step1 k (ρ:=((Unit×Bool×Unit)×((List PtG)×Unit))) (λx17:(Unit×Unit)=>
         some (((),false,()),(([]:List PtG),())),
       λx18:((Unit×Bool×Unit)×((List PtG)×Unit))=>some (((),x18.1.2.1,()),(x18.2.1,())),
       ())
   rw[<-hk]at s2;rw[s2];unfold jd fh
   cases fm (bD K)with
   |true=>exact⟨_,rfl,λ_=>(ah rfl).symm⟩
   |false=>
    cases fm (bD K.reverse)with
    |true=>exact⟨_,rfl,λ_=>(ae (by simp)).symm⟩
    |false=>exact⟨_,rfl,λh=>by cases h⟩
 . rw[ai (p:=(K.length:Int)>16) (by omega)];have:jd K=false:=by unfold jd fm;rw[qv,qv,hlr,al h16];simp
   rw[this];exact⟨_,rfl,λh=>by cases h⟩
abbrev Edg :=Int×(Int×Int)
def tsg (c:Int):Int:=if c=0\/c=8 then 0 else if c<8 then 1 else-1
def EOk (e:Edg):Prop:=(-1≤e.1/\e.1≤1)/\(-1≤e.2.1/\e.2.1≤1)/\Tr e.1 (tsg e.2.2) e.2.1/\(0≤e.2.2/\e.2.2<16)
def IK (e:Edg):Nat:=(if e.1=0 then 1 else 0)+(if e.1*e.2.1<0 then 1 else 0)
def ij :List Edg->Nat
 |[]=>0
 |e::r=>IK e+ij r
theorem vP :∀(A B:List Edg),ij (A++B)=ij A+ij B
 |[],B=>by simp[ij]
 |e::A,B=>by rw[List.cons_append,ij,ij,vP A B,Nat.add_assoc]
def Chn :Int->List Edg->Int->Prop
 |a,[],b=>a=b
 |a,e::r,b=>e.1=a/\Chn e.2.1 r b
theorem sm :∀(A B:List Edg)(a b:Int),Chn a (A++B) b↔∃m,Chn a A m/\Chn m B b
 |[],B,a,b=>⟨λh=>⟨a,rfl,h⟩,λ⟨m,h1,h2⟩=>by rw[show a=m from h1];exact h2⟩
 |e::A,B,a,b=>by
  rw[List.cons_append,Chn,sm A B];constructor
  . rintro⟨h1,m,h2,h3⟩;exact⟨m,⟨h1,h2⟩,h3⟩
  . rintro⟨m,⟨h1,h2⟩,h3⟩;exact⟨h1,m,h2,h3⟩
def kO :Int->List Edg->Prop
 |_,[]=>True
 |b,e::r=>b<e.2.2/\kO e.2.2 r
theorem vM :∀(A B:List Edg)(b:Int),kO b A->(∀e∈A,True)->kO (lst b (A.map (·.2.2))) B->kO b (A++B)
 |[],_,_,_,_,h=>h
 |e::A,B,b,h,_,h2=>⟨h.1,vM A B e.2.2 h.2 (λ_ _=>trivial) h2⟩
theorem kO.mono {b b':Int}(h:b'≤b):∀{A:List Edg},kO b A->kO b' A
 |[],_=>trivial
 |_::_,h2=>⟨by have:=h2.1;omega,h2.2⟩
theorem vc (e:Edg)(h1: -1≤e.1/\e.1≤1)(h2: -1≤e.2.1/\e.2.1≤1):IK e=(if e.1=0 then 1 else 0)+(if(e.1=1/\e.2.1= -1)\/(e.1= -1/\e.2.1=1)then 1 else 0):=by
 unfold IK
 congr 1
 by_cases h:e.1*e.2.1<0
 . rw[ah h,ah ((HE h1 h2).1 h)]
 . rw[ae h,ae (λq=>h ((HE h1 h2).2 q))]
theorem zf :∀(es:List Edg)(a b L:Int),Chn a es b->kO L es->8≤L->(∀e∈es,EOk e)->(-1≤a/\a≤1)->
    b≤a/\(-1≤b)/\(ij es:Int)=(if 0≤a then 1 else 0)-(if 0≤b then 1 else 0)/\∀e∈es,b≤e.1/\e.1≤a
 |[],a,b,L,hc,_,_,_,ha=>by
  have:a=b:=hc;subst this;exact⟨jP _,ha.1,by simp[ij],λe he=>by cases he⟩
 |e::r,a,b,L,hc,hi,hL,hok,ha=>by
  obtain⟨o1,o2,o3,o4⟩:=hok e (bQ ..);obtain⟨c1,c2⟩:=hc;obtain⟨i1,i2⟩:=hi;obtain⟨h1,h1',h2,h3⟩:=zf r e.2.1 b e.2.2 c2 i2 (by omega) (λe he=>hok e (bk _ he)) o2;have ht:tsg e.2.2= -1:=by unfold tsg;rw[ae (by omega),ae (by omega)]
  rw[ht]at o3;unfold Tr at o3;subst c1;refine⟨by omega,h1',?_,λd hd=> ?_⟩
  . rw[ij,vc e o1 o2];have:e.1= -1\/e.1=0\/e.1=1:=by omega
    have:e.2.1= -1\/e.2.1=0\/e.2.1=1:=by omega
    push_cast
    rw[h2];by_cases hb:0≤b
    . simp only[ah hb];split<;>split<;>split<;>omega
    . simp only[ae hb];split<;>split<;>split<;>omega
  . rcases aG.1 hd with rfl|hd
    . omega
    . have:=h3 d hd;omega
theorem J7 :∀(es:List Edg)(a b L:Int),Chn a es b->kO L es->0≤L->(∀e∈es,EOk e)->(-1≤a/\a≤1)->
    (∀e∈es,a≤e.1\/b≤e.1)/\(b<0->(∃e∈es,0<e.1)->(ij es:Int)=1+(if a≤0 then 1 else 0))
 |[],a,b,L,hc,_,_,_,ha=>⟨λe he=>by(cases he),λ_⟨e,he,_⟩=>by(cases he)⟩
 |e::r,a,b,L,hc,hi,hL,hok,ha=>by
  obtain⟨o1,o2,o3,o4⟩:=hok e (bQ ..);have hcc:=hc;obtain⟨c1,c2⟩:=hc;have hii:=hi;obtain⟨i1,i2⟩:=hi;by_cases q:e.2.2<8
  . obtain⟨h1,h2⟩:=J7 r e.2.1 b e.2.2 c2 i2 (by omega) (λe he=>hok e (bk _ he)) o2;have ht:tsg e.2.2=1:=by unfold tsg;rw[ae (by omega),ah q]
    rw[ht]at o3;unfold Tr at o3;subst c1;refine⟨λd hd=> ?_,λhb⟨d,hd,hp⟩=> ?_⟩
    . rcases aG.1 hd with rfl|hd
      . exact .inl (jP _)
      . have:=h1 d hd;omega
    . have hp2:∃d∈r,0<d.1:=by
       rcases aG.1 hd with rfl|hd
       . cases r with
         |nil=>have:d.2.1=b:=c2;omega
         |cons f r=>exact⟨f,bQ ..,by have:=c2.1;omega⟩
       . exact⟨d,hd,hp⟩
      have h3:=h2 hb hp2;rw[ij,vc e o1 o2]
      push_cast
      rw[h3];have:e.1= -1\/e.1=0\/e.1=1:=by omega
      have:e.2.1= -1\/e.2.1=0\/e.2.1=1:=by omega
      split<;>split<;>split<;>omega
  . by_cases q8:e.2.2=8
    . obtain⟨h1,h1',h2,h3⟩:=zf r e.2.1 b e.2.2 c2 i2 (by omega) (λe he=>hok e (bk _ he)) o2;have ht:tsg e.2.2=0:=by unfold tsg;rw[ah (.inr q8)]
      rw[ht]at o3;unfold Tr at o3;subst c1;refine⟨λd hd=> ?_,λhb⟨d,hd,hp⟩=> ?_⟩
      . rcases aG.1 hd with rfl|hd
        . exact .inl (jP _)
        . exact .inr (h3 d hd).1
      . have hp2:0<e.1:=by
         rcases aG.1 hd with rfl|hd
         . exact hp
         . have:=h3 d hd;omega
        rw[ij,vc e o1 o2]
        push_cast
        rw[h2];split<;>split<;>split<;>split<;>omega
    . obtain⟨h1,h1',h2,h3⟩:=zf (e::r) a b 8 hcc ⟨by omega,i2⟩ (by omega) hok ha;refine⟨λd hd=>.inr (h3 d hd).1,λhb⟨d,hd,hp⟩=> ?_⟩;have:=h3 d hd;rw[h2];split<;>split<;>split<;>omega
theorem LN (es:List Edg)(a:Int)(hc:Chn a es a)(hi:kO (-1) es)(hok:∀e∈es,EOk e)(hp:∃e∈es,0<e.1)(hn:∃e∈es,e.1<0):ij es=2:=by
 cases es with
 |nil=>obtain⟨e,he,_⟩:=hp;cases he
 |cons e r=>
  obtain⟨o1,o2,o3,o4⟩:=hok e (bQ ..);have hcc:=hc;obtain⟨c1,c2⟩:=hc;have ha: -1≤a/\a≤1:=by omega
  by_cases q:e.2.2=0
  . have ht:tsg e.2.2=0:=by unfold tsg;rw[ah (.inl q)]
    rw[ht]at o3;unfold Tr at o3;obtain⟨h1,h2⟩:=J7 r e.2.1 a e.2.2 c2 hi.2 (by omega) (λe he=>hok e (bk _ he)) o2
    have ha0:a<0:=by
     obtain⟨d,hd,hd2⟩:=hn;rcases aG.1 hd with rfl|hd
     . omega
     . have:=h1 d hd;omega
    have hp2:∃d∈r,0<d.1:=by
     obtain⟨d,hd,hp⟩:=hp;rcases aG.1 hd with rfl|hd
     . omega
     . exact⟨d,hd,hp⟩
    have h3:=h2 ha0 hp2
    have:((ij (e::r):Nat):Int)=2:=by
     rw[ij,vc e o1 o2]
     push_cast
     rw[h3];split<;>split<;>split<;>omega
    omega
  . obtain⟨h1,h2⟩:=J7 (e::r) a a 0 hcc ⟨by omega,hi.2⟩ (by omega) hok ha;have ha0:a<0:=by obtain⟨d,hd,hd2⟩:=hn;have:=h1 d hd;omega
    have h3:=h2 ha0 hp;rw[ah (by omega)]at h3;omega
def desc :Int->List Int->Nat
 |_,[]=>0
 |b,d::r=>(if d<b then 1 else 0)+desc d r
theorem Bx :∀(cs:List Int)(b:Int),(∀c∈cs,0≤c/\c<16)->(0≤b/\b<16)->smT b cs=lst b cs-b+16*(desc b cs:Int)
 |[],b,_,_=>by simp[smT,lst,desc]
 |c::r,b,h,hb=>by
  have hc:=h c (bQ ..);have ih:=Bx r c (λc hc=>h c (bk _ hc)) hc;unfold smT lst desc;rw[ih];by_cases q:c<b
  . rw[ah q];push_cast;omega
  . rw[ae q];push_cast;omega
theorem KN :∀(es:List Edg)(b:Int),okT b (es.map (·.2.2))=true->desc b (es.map (·.2.2))=0->kO b es
 |[],_,_,_=>trivial
 |e::r,b,h,hd=>by
  simp only[cR,okT,desc,aH]at h hd;have h1:=h.1;unfold tok at h1;simp only[aH,bT]at h1;have q:¬e.2.2<b:=λq=>by rw[ah q]at hd;omega
  rw[ae q]at hd;refine⟨?_,KN r e.2.2 h.2 (by omega)⟩;by_cases e2:e.2.2=b
  . rw[e2]at h1;simp at h1
  . omega
theorem Fb :∀(es:List Edg)(b:Int),okT b (es.map (·.2.2))=true->desc b (es.map (·.2.2))=1->∃A B,es=A++B/\kO b A/\B≠[]/\(∀L,(∀e∈es,L<e.2.2)->kO L B)
 |[],_,_,h=>by cases h
 |e::r,b,h,hd=>by
  simp only[cR,okT,desc,aH]at h hd;have h1:=h.1;unfold tok at h1;simp only[aH,bT]at h1;by_cases q:e.2.2<b
  . rw[ah q]at hd;refine⟨[],e::r,rfl,trivial,by simp,λL hL=>⟨hL e (bQ ..),KN r e.2.2 h.2 (by omega)⟩⟩
  . rw[ae q,dc]at hd;obtain⟨A,B,e1,e2,e3,e4⟩:=Fb r e.2.2 h.2 hd;refine⟨e::A,B,by rw[e1];rfl,⟨?_,e2⟩,e3,λL hL=>e4 L λd hd=>hL d (bk _ hd)⟩;by_cases q2:e.2.2=b
    . rw[q2]at h1;simp at h1
    . omega
theorem yj :∀(A B:List Int)(b:Int),lst b (A++B)=lst (lst b A) B
 |[],_,_=>rfl
 |a::A,B,b=>yj A B a
theorem Sx :∀(B:List Int)(b b':Int),B≠[]->lst b B=lst b' B
 |[],_,_,h=>absurd rfl h
 |_::_,_,_,_=>rfl
theorem Pr (es:List Edg)(a b:Int)(hc:Chn a es a)(hok:∀e∈es,EOk e)(hb:0≤b/\b<16)(hl:lst b (es.map (·.2.2))=b)(ht:okT b (es.map (·.2.2))=true)(hs:smT b (es.map (·.2.2))=16)(hp:∃e∈es,0<e.1)(hn:∃e∈es,e.1<0):ij es=2:=by
 have hd:=Bx (es.map (·.2.2)) b (λc hc=>by
  obtain⟨e,he,rfl⟩:=eZ.1 hc
  exact(hok e he).2.2.2) hb
 rw[hl,hs]at hd;obtain⟨A,B,e1,e2,e3,e4⟩:=Fb es b ht (by omega);have hB:=e4 (-1) (λe he=>by have:=(hok e he).2.2.2;omega);subst e1;obtain⟨m,c1,c2⟩:=(sm A B a a).1 hc;have hBA:Chn m (B++A) m:=(sm B A m m).2 ⟨a,c2,c1⟩;have hlB:lst (-1) (B.map (·.2.2))=b:=by rw[gu,yj]at hl;rw[<-hl];exact Sx _ _ _ (by simpa using e3)
 have hinc:kO (-1) (B++A):=vM B A (-1) hB (λ_ _=>trivial) (by rw[hlB];exact e2)
 have key:=LN (B++A) m hBA hinc (λe he=>hok e (by rcases aC.1 he with h|h;exact aC.2 (.inr h);exact aC.2 (.inl h)))
  (by obtain⟨e,he,h⟩:=hp;exact⟨e,by rcases aC.1 he with h|h;exact aC.2 (.inr h);exact aC.2 (.inl h),h⟩)
  (by obtain⟨e,he,h⟩:=hn;exact⟨e,by rcases aC.1 he with h|h;exact aC.2 (.inr h);exact aC.2 (.inl h),h⟩)
 rw[vP]at key⊢;omega
theorem TO :∀a b:Fin 16,(ao (fP.getD a ((0,0),(0,0))) (fP.getD b ((0,0),(0,0)))).sg=tsg (((b.val:Int)-(a.val:Int))%16):=by decide+kernel
theorem TP {d e:Int}(h0:0≤d)(h1:d<16)(h2:0≤e)(h3:e<16):(ao (vec d) (vec e)).sg=tsg ((e-d)%16):=by have:=TO ⟨d.toNat,by omega⟩ ⟨e.toNat,by omega⟩;unfold vec;rw[show d%16=d by omega,show e%16=e by omega];simp only at this;rw[this,show((e.toNat:Int)-(d.toNat:Int))=e-d by omega]
def sc (X:Z2):Z2:=(8*X.1,8*X.2)
def v8 (P:V2):V2:=(sc P.1,sc P.2)
theorem RF (X:Z2):(sc X).sg=X.sg:=by have:=E8 (a:=X.1) (b:=X.2) 3;rw[show((X.1*2^3,X.2*2^3):Z2)=sc X by unfold sc;exact Prod.ext (by simp;omega) (by simp;omega)]at this;exact this
theorem LW (X Y:Z2):(sc X).sub (sc Y)=sc (X.sub Y):=by unfold sc Z2.sub;exact Prod.ext (by simp only;omega) (by simp only;omega)
theorem Wg (X Y:Z2):(sc X).add (sc Y)=sc (X.add Y):=by unfold sc Z2.add;exact Prod.ext (by simp only;omega) (by simp only;omega)
theorem LV (X Y:Z2):X.mul (sc Y)=sc (X.mul Y):=by unfold sc Z2.mul;exact Prod.ext (by simp only;grind) (by simp only;grind)
theorem HH (X:Z2):X.mul (8,0)=sc X:=by unfold sc Z2.mul;exact Prod.ext (by simp only;omega) (by simp only;omega)
theorem Ed (u P:V2):dot u (v8 P)=sc (dot u P):=by unfold dot v8;rw[LV,LV,Wg]
theorem Rp.lift {X:Z2}{a b c:Int}(r:Rp 10 X a b c):Rp 13 (sc X) a b c:=by
 have h0:=r.c0;have h1:=r.ck;have e:13-c.toNat=3+(10-c.toNat):=by omega
 refine⟨r.c0,by omega,?_,?_,r.rd⟩
 . rw[e,gG];unfold sc;rw[r.h1];simp only;rw[show(2:Int)^3=8 from rfl,Int.mul_left_comm]
 . rw[e,gG];unfold sc;rw[r.h2];simp only;rw[show(2:Int)^3=8 from rfl,Int.mul_left_comm]
theorem Bd.sc {M:Int}{X:Z2}(h:Bd M X):Bd (8*M) (R.sc X):=by unfold Bd at*;unfold R.sc;simp only;omega
theorem Pp.lift {P:V2}{a1 a2 a3 a4 a5 a6:Int}(r:Pp 10 P a1 a2 a3 a4 a5 a6):Pp 13 (v8 P) a1 a2 a3 a4 a5 a6:=⟨r.x.lift,r.y.lift⟩
theorem Bp.v8 {M:Int}{P:V2}(h:Bp M P):Bp (8*M) (R.v8 P):=⟨h.1.sc,h.2.sc⟩
def cj (D:Z2):Z2:=(D.1,-D.2)
def io (D:Z2):Z2:=(D.1*(8/D.nm),-D.2*(8/D.nm))
structure Dn (D:Z2)(s:Int)(e:Nat):Prop where
 s1:s=1\/s= -1
 e3:e≤3
 nm:D.nm=s*2^e
 bd:Bd 4 D
 iv:D.mul (io D)=(8,0)
theorem Dn.inv {D:Z2}{s:Int}{e:Nat}(h:Dn D s e):io D=(D.1*(s*2^(3-e)),-D.2*(s*2^(3-e))):=by
 obtain⟨s1,e3,nm,bd,iv⟩:=h;unfold io;rw[nm]
 have:(8:Int)/(s*2^e)=s*2^(3-e):=by
  have he:e=0\/e=1\/e=2\/e=3:=by omega
  rcases s1 with rfl|rfl<;>rcases he with rfl|rfl|rfl|rfl<;>decide
 rw[this]
theorem SC {X D:Z2}{s:Int}{e:Nat}(h:Dn D s e):X.mul (io D)=((X.mul (cj D)).1*(s*2^(3-e)),(X.mul (cj D)).2*(s*2^(3-e))):=by rw[h.inv];unfold Z2.mul cj;generalize s*2^(3-e)=t;exact Prod.ext (by simp only;grind) (by simp only;grind)
theorem KM (kk:Nat):∀(e j:Nat)(s a b c K:Int)(x y:Int){ρ:Type}(nx:((((Unit×Int×Unit×Unit)×((Int×Int×Int×Unit)×(Int×Int×Int×Unit)×Unit))->Option ρ)×Unit)),(s=1\/s= -1)->e≤3->e+1≤j->0≤K->K+(e:Int)≤1000->
    oR kk j (s*2^e) a b c x y K nx=nx.1 (((),s,(),()),((a,b,c,()),(x,y,K+(e:Int),()),())):=by
 intro e
 induction e with
 |zero=>
  intro j s a b c K x y ρ nx hs _ hj hK hK2;obtain⟨j,rfl⟩:=aA hj;unfold oR;rw[Int.pow_zero,Int.mul_one,vl s (by omega) (by omega),show(s%2==0)=false from bo (by omega),Int.natCast_zero,Int.add_zero];rfl
 |succ e ih=>
  intro j s a b c K x y ρ nx hs he hj hK hK2;obtain⟨j,rfl⟩:=aA hj
  have hb: -8≤s*2^(e+1)/\s*2^(e+1)≤8/\ -8≤s*2^e/\s*2^e≤8:=by
   have:e=0\/e=1\/e=2:=by omega
   rcases hs with rfl|rfl<;>rcases this with rfl|rfl|rfl<;>decide
  have h2:s*2^(e+1)=2*(s*2^e):=by rw[mK,<-eW,lD]
  unfold oR;rw[vl _ (by omega) (by omega),show(s*2^(e+1)%2==0)=true from bX.2 (by omega),h2,Int.mul_tdiv_cancel_left _ (by decide),aw (x:=s*2^e) (by omega) (by omega),aw (x:=K+1) (by omega) (by omega),ab,ih j s a b c (K+1) x y nx hs (by omega) (by omega) (by omega) (by omega),show K+1+(e:Int)=K+((e+1:Nat):Int) by omega]
theorem Jf (kk:Nat):∀(e j:Nat)(s a b c d f g K:Int)(x y:Int){ρ:Type}(nx:((((Unit×Unit×Int×Unit×Unit)×((Int×Int×Int×Unit)×(Int×Int×Int×Unit)×(Int×Int×Int×Unit)×Unit))->Option ρ)×Unit)),(s=1\/s= -1)->e≤3->e+1≤j->0≤K->K+(e:Int)≤1000->
    oO kk j (s*2^e) a b c d f g x y K nx=nx.1 (((),(),s,(),()),((a,b,c,()),(d,f,g,()),(x,y,K+(e:Int),()),())):=by
 intro e
 induction e with
 |zero=>
  intro j s a b c d f g K x y ρ nx hs _ hj hK hK2;obtain⟨j,rfl⟩:=aA hj;unfold oO;rw[Int.pow_zero,Int.mul_one,show(s.tmod 2==0)=false by rcases hs with rfl|rfl<;>rfl,Int.natCast_zero,Int.add_zero];rfl
 |succ e ih=>
  intro j s a b c d f g K x y ρ nx hs he hj hK hK2;obtain⟨j,rfl⟩:=aA hj
  have hb: -8≤s*2^e/\s*2^e≤8:=by
   have:e=0\/e=1\/e=2:=by omega
   rcases hs with rfl|rfl<;>rcases this with rfl|rfl|rfl<;>decide
  have h2:s*2^(e+1)=2*(s*2^e):=by rw[mK,<-eW,lD]
  unfold oO;rw[h2,Int.mul_tmod_right,show((0:Int)==0)=true from rfl,Int.mul_tdiv_cancel_left _ (by decide),aw (x:=s*2^e) (by omega) (by omega),aw (x:=K+1) (by omega) (by omega),ab,ih j s a b c d f g (K+1) x y nx hs (by omega) (by omega) (by omega) (by omega),show K+1+(e:Int)=K+((e+1:Nat):Int) by omega]
section
variable {kk : Nat} {X D : Z2} {a b c s : Int} {e : Nat} {M : Int}
theorem Hv (h:Dn D s e):wr .i64 ((wr .i64 (D.1*D.1))-(wr .i64 ((wr .i64 (2*D.2))*D.2)))=s*2^e/\s*2^e≠0:=by
 obtain⟨s1,e3,nm,bd,iv⟩:=h;obtain⟨b1,b2,b3,b4⟩:=bd;have p1:=eP ⟨b1,b2⟩ ⟨b1,b2⟩;have p2:=eP ⟨b3,b4⟩ ⟨b3,b4⟩;rw[aw (x:=2*D.2) (by omega) (by omega),eW 2 D.2 D.2,aw (x:=D.1*D.1) (by omega) (by omega),aw (x:=2*(D.2*D.2)) (by omega) (by omega),aw (by omega) (by omega)];refine⟨nm,?_⟩;have he:e=0\/e=1\/e=2\/e=3:=by omega
 rcases s1 with rfl|rfl<;>rcases he with rfl|rfl|rfl|rfl<;>decide
theorem yH (hs:s=1\/s= -1)(x:Int):x.tdiv s=x*s/\x.tmod s=0/\(x*s=x\/x*s= -x):=by
 rcases hs with rfl|rfl
 . exact⟨by simp,by simp,.inl (by omega)⟩
 . exact⟨by simp,by simp,.inr (by omega)⟩
theorem wv (h:Dn D s e){x y K:Int}(k0:0≤K)(k1:K≤10)(e1:(X.mul (cj D)).1=x*2^(10-K.toNat))(e2:(X.mul (cj D)).2=y*2^(10-K.toNat)):
    (X.mul (io D)).1=(x*s)*2^(13-(K+(e:Int)).toNat)/\(X.mul (io D)).2=(y*s)*2^(13-(K+(e:Int)).toNat):=by
 have h3:=h.e3;rw[SC h,e1,e2,show 13-(K+(e:Int)).toNat=(10-K.toNat)+(3-e) by omega,gG];generalize (2:Int)^(10-K.toNat)=p;generalize (2:Int)^(3-e)=q;exact⟨by simp only;grind,by simp only;grind⟩
theorem Hx (hkk:400≤kk)(h:Dn D s e)(r:Rp 10 X a b c)(B:Bd M X)(hM:0≤M)(hM2:M≤1099511627776):
    ∃t1 t2 t3,f237 kk a b c D.1 D.2 0=some (((t1,t2,t3,()),true,()),())/\Rp 13 (X.mul (io D)) t1 t2 t3:=by
 obtain⟨n1,n2⟩:=Hv h;have bdD:=h.bd;have bdc:Bd 4 (cj D):=by unfold Bd cj at*;simp only;omega
 obtain⟨x,y,K,m1,m2⟩:=ix (kk:=kk) (M:=M) (N:=4) hkk (by omega) (by omega) r (rp0 (cj D)) B bdc hM (by omega) (by omega) (by omega);have mb:=m2.bd (M:=3*(M*4)) (by omega) (B.mul bdc);have hK0:=m2.c0;have hK1:=m2.ck;obtain⟨p1,p2⟩:=wv h hK0 (by omega) m2.h1 m2.h2;have he:=h.e3;have hs:=h.s1;have d1:=yH hs x;have d2:=yH hs y;obtain⟨t1,t2,t3,r1,r2⟩:=s9 (kk:=kk) (k:=13) (X:=X.mul (io D)) (a:=x*s) (b:=y*s) (c:=K+(e:Int)) hkk (by omega) (by omega) (by omega) p1 p2 (by omega) (by omega) (by omega) (by omega);refine⟨t1,t2,t3,?_,r2⟩;unfold f237;dsimp only;rw[n1,show(s*2^e==0)=false from bo n2,ac,aw (x:=0-D.2) (by unfold Bd at bdD;omega) (by unfold Bd at bdD;omega),Int.zero_sub];rw[show f207 kk a b c D.1 (-D.2) 0=some (((x,y,K,()),()),())from m1];simp only[aa];rw[aw (x:=K-0) (by omega) (by omega),Int.sub_zero,KM kk e kk s 0 0 0 K x y _ hs he (by omega) hK0 (by omega)];dsimp only;rw[al (p:=s=0) (by omega),d1.2.1,d2.2.1,d1.1,d2.1,al (p:=K+(e:Int)<0) (by omega),aw (x:=x*s) (by omega) (by omega),aw (x:=y*s) (by omega) (by omega),r1];rfl
theorem Hc (hkk:400≤kk)(h:Dn D s e)(r:Rp 10 X a b c)(B:Bd M X)(hM:0≤M)(hM2:M≤1099511627776):
    ∃t1 t2 t3,f222 kk a b c D.1 D.2 0=some (((t1,t2,t3,()),true,()),())/\Rp 13 (X.mul (io D)) t1 t2 t3:=by
 obtain⟨n1,n2⟩:=Hv h;have bdD:=h.bd;obtain⟨q1,q2,q3,q4⟩:=id bdD;obtain⟨ba,bb⟩:=r.bd hM B;have u1:=eP ba ⟨q1,q2⟩;have u2:=eP bb ⟨q3,q4⟩;have u3:=eP bb ⟨q1,q2⟩;have u4:=eP ba ⟨q3,q4⟩;obtain⟨m1,m2⟩:=uo r (rp0 (cj D));have hK0:=r.c0;have hK1:=r.ck;have w1:wr .i64 ((wr .i64 (a*D.1))-(wr .i64 ((wr .i64 (2*b))*D.2)))=a*D.1-2*(b*D.2):=by rw[aw (x:=2*b) (by omega) (by omega),eW,aw (x:=a*D.1) (by omega) (by omega),aw (x:=2*(b*D.2)) (by omega) (by omega),aw (by omega) (by omega)]
 have w2:wr .i64 ((wr .i64 (b*D.1))-(wr .i64 (a*D.2)))=b*D.1-a*D.2:=by rw[aw (x:=b*D.1) (by omega) (by omega),aw (x:=a*D.2) (by omega) (by omega),aw (by omega) (by omega)]
 rw[show 10+0-(c+0).toNat=10-c.toNat by omega,show a*(cj D).1+2*b*(cj D).2=a*D.1-2*(b*D.2) by unfold cj;simp only;rw[Int.mul_neg,eW];omega]at m1;rw[show 10+0-(c+0).toNat=10-c.toNat by omega,show a*(cj D).2+b*(cj D).1=b*D.1-a*D.2 by unfold cj;simp only;rw[Int.mul_neg];omega]at m2;obtain⟨p1,p2⟩:=wv h hK0 (by omega) m1 m2;have he:=h.e3;have hs:=h.s1;generalize a*D.1-2*(b*D.2)=x at*;generalize b*D.1-a*D.2=y at*;have xb: -17592186044416≤x/\x≤17592186044416/\ -17592186044416≤y/\y≤17592186044416:=by rw[<-w1,<-w2];rw[aw (x:=2*b) (by omega) (by omega),eW,aw (x:=a*D.1) (by omega) (by omega),aw (x:=2*(b*D.2)) (by omega) (by omega),aw (x:=b*D.1) (by omega) (by omega),aw (x:=a*D.2) (by omega) (by omega),aw (x:=a*D.1-2*(b*D.2)) (by omega) (by omega),aw (x:=b*D.1-a*D.2) (by omega) (by omega)];omega
 have d1:=yH hs x;have d2:=yH hs y;obtain⟨t1,t2,t3,r1,r2⟩:=EG (kk:=kk) (k:=13) (X:=X.mul (io D)) (a:=x*s) (b:=y*s) (c:=c+(e:Int)) hkk (by omega) (by omega) (by omega) p1 p2 (by omega) (by omega) (by omega) (by omega);refine⟨t1,t2,t3,?_,r2⟩;obtain⟨k,hk⟩:∃m,kk=m+1:=⟨kk-1,by omega⟩;have l13:∀(A B C u v w:Int){ρ:Type}(nx:((((Unit×Unit×Unit)×((Int×Int×Int×Unit)×(Int×Int×Int×Unit)×Unit))->Option ρ)×Unit)),mv kk kk 0 A B C u v w nx=nx.1 (((),(),()),((A,B,C,()),(u,v,w,()),())):=λA B C u v w ρ nx=>by rw[hk];unfold mv;rfl
 unfold f222;dsimp only;rw[n1,show(s*2^e==0)=false from bo n2,ac,w1,w2,Jf kk e kk s D.1 D.2 0 0 0 0 c x y _ hs he (by omega) hK0 (by omega)];dsimp only;rw[al (p:=s=0) (by omega),d1.2.1,d2.2.1,d1.1,d2.1,aw (x:=x*s) (by omega) (by omega),aw (x:=y*s) (by omega) (by omega),l13];dsimp only;rw[r1];rfl
end
def jY (a b:Int):Z2:=ao (vec (a+4)) (vec (b+4))
def xf (D:Z2):Int×Nat:=if D.nm=1 then(1,0)else if D.nm=2 then(1,1)else if D.nm=4 then(1,2)else if D.nm=8 then(1,3)else if D.nm= -1 then(-1,0)else if D.nm= -2 then(-1,1)else if D.nm= -4 then(-1,2)else(-1,3)
theorem Sl :∀a b:Fin 8,a≠b->(let D:=jY a.val b.val;((xf D).1=1\/(xf D).1= -1)/\(xf D).2≤3/\D.nm=(xf D).1*2^(xf D).2/\(-4≤D.1/\D.1≤4/\ -4≤D.2/\D.2≤4)/\D.mul (io D)=(8,0)/\(-8≤(io D).1/\(io D).1≤8/\ -8≤(io D).2/\(io D).2≤8)):=by decide+kernel
theorem xM {a b:Int}(a0:0≤a)(a1:a<8)(b0:0≤b)(b1:b<8)(h:a≠b):Dn (jY a b) (xf (jY a b)).1 (xf (jY a b)).2/\Bd 8 (io (jY a b)):=by have:=Sl ⟨a.toNat,by omega⟩ ⟨b.toNat,by omega⟩ (λe=>h (by have:=congrArg Fin.val e;simp only at this;omega));simp only at this;rw[show((a.toNat:Nat):Int)=a by omega,show((b.toNat:Nat):Int)=b by omega]at this;obtain⟨h1,h2,h3,h4,h5,h6⟩:=this;exact⟨⟨h1,h2,h3,h4,h5⟩,h6⟩
def sO (a b:Int)(A B:Z2):V2:=
 (((A.mul (vec (b+4)).2).sub (B.mul (vec (a+4)).2)).mul (io (jY a b)),((B.mul (vec (a+4)).1).sub (A.mul (vec (b+4)).1)).mul (io (jY a b)))
theorem Nj (n m:V2)(A B i:Z2):(dot m ((((A.mul m.2).sub (B.mul n.2)).mul i),(((B.mul n.1).sub (A.mul m.1)).mul i)))=B.mul ((ao n m).mul i)/\
    (dot n ((((A.mul m.2).sub (B.mul n.2)).mul i),(((B.mul n.1).sub (A.mul m.1)).mul i)))=A.mul ((ao n m).mul i):=by
 unfold dot ao Z2.mul Z2.sub Z2.add;constructor
 . exact Prod.ext (by simp only;grind) (by simp only;grind)
 . exact Prod.ext (by simp only;grind) (by simp only;grind)
theorem SA {a b:Int}(a0:0≤a)(a1:a<8)(b0:0≤b)(b1:b<8)(h:a≠b)(A B:Z2):dot (vec (b+4)) (sO a b A B)=sc B/\dot (vec (a+4)) (sO a b A B)=sc A:=by have iv:=(xM a0 a1 b0 b1 h).1.iv;unfold jY at iv;obtain⟨h1,h2⟩:=Nj (vec (a+4)) (vec (b+4)) A B (io (jY a b));unfold jY at h1 h2;unfold sO jY;rw[h1,h2,iv,HH,HH];exact⟨rfl,rfl⟩
section
variable {kk : Nat} {A B : Z2} {a b a1 a2 a3 b1 b2 b3 : Int}
theorem Hq (ha0:0≤a)(ha1:a<8)(hb0:0≤b)(hb1:b<8)(h:a≠b)(BA:Bd 805306368 A)(BB:Bd 805306368 B):Bp 137438953472 (sO a b A B):=by obtain⟨_,iv⟩:=xM ha0 ha1 hb0 hb1 h;have vb:=dx (b+4);have va:=dx (a+4);exact⟨(((BA.mul vb.2).sub (BB.mul va.2)).mul iv).mono (by omega),(((BB.mul va.1).sub (BA.mul vb.1)).mul iv).mono (by omega)⟩
theorem FJ (hkk:400≤kk)(ha0:0≤a)(ha1:a<8)(hb0:0≤b)(hb1:b<8)(h:a≠b)(rA:Rp 10 A a1 a2 a3)(rB:Rp 10 B b1 b2 b3)(BA:Bd 805306368 A)(BB:Bd 805306368 B):
    ∃x1 x2 x3 x4 x5 x6,f216 kk a a1 a2 a3 b b1 b2 b3=some (((x1,x2,x3,x4,x5,x6,()),true,()),())/\Pp 13 (sO a b A B) x1 x2 x3 x4 x5 x6:=by
 obtain⟨dn,iv⟩:=xM ha0 ha1 hb0 hb1 h;have na:=hU (a+4);have nb:=hU (b+4);have va:=dx (a+4);have vb:=dx (b+4);obtain⟨d1,d2,d3,c1,c2⟩:=wL (kk:=kk) (M:=1) (N:=1) hkk (by omega) na nb va vb (by omega) (by omega) (by omega) (by omega);have hd:=(c2:Rp 0 (jY a b) d1 d2 d3).Ps (rp0 (jY a b));obtain⟨e1,e2,e3⟩:=hd;subst e1 e2 e3;obtain⟨t1,t2,t3,s1,s2⟩:=ix (kk:=kk) (M:=805306368) (N:=1) hkk (by omega) (by omega) rA nb.y BA vb.2 (by omega) (by omega) (by omega) (by omega);obtain⟨u1,u2,u3,s3,s4⟩:=ix (kk:=kk) (M:=805306368) (N:=1) hkk (by omega) (by omega) rB na.y BB va.2 (by omega) (by omega) (by omega) (by omega);obtain⟨v1,v2,v3,s5,s6⟩:=iq (kk:=kk) hkk (by omega) s2 s4 ((BA.mul vb.2).mono (by omega)) ((BB.mul va.2).mono (by omega));obtain⟨w1,w2,w3,s7,s8⟩:=Hx (kk:=kk) (M:=4831838208) hkk dn s6 (((BA.mul vb.2).sub (BB.mul va.2)).mono (by omega)) (by omega) (by omega);obtain⟨t4,t5,t6,z1,z2⟩:=ix (kk:=kk) (M:=805306368) (N:=1) hkk (by omega) (by omega) rB na.x BB va.1 (by omega) (by omega) (by omega) (by omega);obtain⟨u4,u5,u6,z3,z4⟩:=ix (kk:=kk) (M:=805306368) (N:=1) hkk (by omega) (by omega) rA nb.x BA vb.1 (by omega) (by omega) (by omega) (by omega);obtain⟨v4,v5,v6,z5,z6⟩:=iq (kk:=kk) hkk (by omega) z2 z4 ((BB.mul va.1).mono (by omega)) ((BA.mul vb.1).mono (by omega));obtain⟨w4,w5,w6,z7,z8⟩:=Hx (kk:=kk) (M:=4831838208) hkk dn z6 (((BB.mul va.1).sub (BA.mul vb.1)).mono (by omega)) (by omega) (by omega);refine⟨w1,w2,w3,w4,w5,w6,?_,s8,z8⟩;unfold f216 f173;rw[aw (x:=a+4) (by omega) (by omega),aw (x:=b+4) (by omega) (by omega),kG kk (a+4) (by omega) (by omega),kG kk (b+4) (by omega) (by omega)];simp only[aa];rw[c1];simp only[aa];rw[s1];simp only[aa];rw[s3];simp only[aa];rw[s5];simp only[aa];rw[s7];simp only[aa];rw[z1];simp only[aa];rw[z3];simp only[aa];rw[z5];simp only[aa];rw[z7];rfl
theorem EF (hkk:400≤kk)(ha0:0≤a)(ha1:a<8)(hb0:0≤b)(hb1:b<8)(h:a≠b)(rA:Rp 10 A a1 a2 a3)(rB:Rp 10 B b1 b2 b3)(BA:Bd 805306368 A)(BB:Bd 805306368 B):
    ∃x1 x2 x3 x4 x5 x6,f189 kk a a1 a2 a3 b b1 b2 b3=some (((x1,x2,x3,x4,x5,x6,()),()),())/\Pp 13 (sO a b A B) x1 x2 x3 x4 x5 x6:=by
 obtain⟨dn,iv⟩:=xM ha0 ha1 hb0 hb1 h;have na:=hU (a+4);have nb:=hU (b+4);have va:=dx (a+4);have vb:=dx (b+4);obtain⟨g1,g2,g3,k1,k2⟩:=kC (kk:=kk) (M:=1) (N:=1) hkk (by omega) (by omega) na.x nb.y va.1 vb.2 (by omega) (by omega) (by omega) (by omega);obtain⟨g4,g5,g6,k3,k4⟩:=kC (kk:=kk) (M:=1) (N:=1) hkk (by omega) (by omega) na.y nb.x va.2 vb.1 (by omega) (by omega) (by omega) (by omega);obtain⟨d1,d2,d3,c1,c2⟩:=fG (kk:=kk) hkk (by omega) k2 k4 ((va.1.mul vb.2).mono (by omega)) ((va.2.mul vb.1).mono (by omega));have hd:=(c2:Rp 0 (jY a b) d1 d2 d3).Ps (rp0 (jY a b));obtain⟨e1,e2,e3⟩:=hd;subst e1 e2 e3;obtain⟨t1,t2,t3,s1,s2⟩:=kC (kk:=kk) (M:=805306368) (N:=1) hkk (by omega) (by omega) rA nb.y BA vb.2 (by omega) (by omega) (by omega) (by omega);obtain⟨u1,u2,u3,s3,s4⟩:=kC (kk:=kk) (M:=805306368) (N:=1) hkk (by omega) (by omega) rB na.y BB va.2 (by omega) (by omega) (by omega) (by omega);obtain⟨v1,v2,v3,s5,s6⟩:=fG (kk:=kk) hkk (by omega) s2 s4 ((BA.mul vb.2).mono (by omega)) ((BB.mul va.2).mono (by omega));obtain⟨w1,w2,w3,s7,s8⟩:=Hc (kk:=kk) (M:=4831838208) hkk dn s6 (((BA.mul vb.2).sub (BB.mul va.2)).mono (by omega)) (by omega) (by omega);obtain⟨t4,t5,t6,z1,z2⟩:=kC (kk:=kk) (M:=805306368) (N:=1) hkk (by omega) (by omega) rB na.x BB va.1 (by omega) (by omega) (by omega) (by omega);obtain⟨u4,u5,u6,z3,z4⟩:=kC (kk:=kk) (M:=805306368) (N:=1) hkk (by omega) (by omega) rA nb.x BA vb.1 (by omega) (by omega) (by omega) (by omega);obtain⟨v4,v5,v6,z5,z6⟩:=fG (kk:=kk) hkk (by omega) z2 z4 ((BB.mul va.1).mono (by omega)) ((BA.mul vb.1).mono (by omega));obtain⟨w4,w5,w6,z7,z8⟩:=Hc (kk:=kk) (M:=4831838208) hkk dn z6 (((BB.mul va.1).sub (BA.mul vb.1)).mono (by omega)) (by omega) (by omega);refine⟨w1,w2,w3,w4,w5,w6,?_,s8,z8⟩;unfold f189 f126 f185;rw[aw (x:=a+4) (by omega) (by omega),aw (x:=b+4) (by omega) (by omega),zW kk (a+4) (by omega) (by omega),zW kk (b+4) (by omega) (by omega)];simp only[aa];rw[k1];simp only[aa];rw[k3];simp only[aa];rw[c1];simp only[aa];rw[s1];simp only[aa];rw[s3];simp only[aa];rw[s5];simp only[aa];rw[s7];simp only[aa];rw[z1];simp only[aa];rw[z3];simp only[aa];rw[z5];simp only[aa];rw[z7];rfl
end
structure Poly (l:List PtG):Prop where
 ok:∀p∈l,okP p=true
 n3:3≤l.length
 n16:l.length≤16
 cv:kX l=true
theorem HB {l:List PtG}(ok:∀p∈l,okP p=true)(h:fm l=true):Poly l:=by unfold fm at h;simp only[aH,bT]at h;exact⟨ok,h.1,h.2.1,h.2.2⟩
theorem Ef (l:List PtG):∀(r:List PtG)(i m:Nat),(dsF l i r).drop m=dsF l (i+m) (r.drop m)
 |r,i,0=>by simp
 |[],i,m+1=>by simp[dsF]
 |q::r,i,m+1=>by rw[List.drop_succ_cons,show dsF l i (q::r)=aI q (atN l ((i+1)%l.length))::dsF l (i+1) r from rfl,List.drop_succ_cons,Ef l r (i+1) m,show i+1+m=i+(m+1) by omega]
theorem Hb {l r:List PtG}{i:Nat}{q:PtG}(h:l.drop i=q::r):(gN l)[i]? =some (aI q (atN l ((i+1)%l.length))):=by have e:=Ef l l 0 i;rw[h,dc]at e;have:=congrArg (·[0]?) e;simp only[dsF,List.getElem?_cons_zero,nz,Nat.add_zero]at this;exact this
theorem Poly.dir {l r:List PtG}(g:Poly l){i:Nat}{q:PtG}(h:l.drop i=q::r):aI q (atN l ((i+1)%l.length))≠ -1:=by have h1:=g.cv;unfold kX at h1;rw[aH]at h1;have:=dj.1 h1.1 _ (aX (Hb h));simpa using this
def nP (l:List PtG)(p:PtG):Int->Nat->List PtG->Int|m,_,[]=>m|m,i,q::r=>nP l p (bif decide ((ao (vec (aI q (atN l ((i+1)%l.length)))) (aD (pt p) (pt q))).sg<m)then(ao (vec (aI q (atN l ((i+1)%l.length)))) (aD (pt p) (pt q))).sg else m) (i+1) r
theorem vW {kk:Nat}(hkk:400≤kk){l:List PtG}(g:Poly l){p:PtG}(hp:okP p=true):∀(r:List PtG)(i j:Nat)(m:Int){ρ:Type}(nx:((((Int×Unit)×Unit)->Option ρ)×Unit)),l.drop i=r->r.length+1≤j->
    rJ kk j l m l (l.length:Int) (i:Int) p.1.1 p.1.2.1 p.1.2.2 p.2.1 p.2.2.1 p.2.2.2 nx=nx.1 ((nP l p m i r,()),())
 |[],i,j,m,ρ,nx,h,hj=>by
  obtain⟨j,rfl⟩:=aA hj;unfold rJ;rw[aP h];rfl
 |q::r,i,j,m,ρ,nx,h,hj=>by
  obtain⟨j,rfl⟩:=aA hj;have hi:=aK h;have hn:=g.n16;have hpos:0<l.length:=by omega
  have m2:(i+1)%l.length<l.length:=gM _ hpos;have hq:okP q=true:=g.ok q (aX (aO h));have hx:=g.ok _ (dA m2);obtain⟨rq,bq⟩:=cA hq;obtain⟨rx,bx⟩:=cA hx;obtain⟨rp,bp⟩:=cA hp;obtain⟨d0,d1,sg⟩:=iw (g.dir h);have ih:=λm=>vW hkk g hp r (i+1) j m nx (an h) (by simp only[ax]at hj;omega)
  unfold rJ;rw[aJ h,aE h,al (p:=(l.length:Int)=0) (by omega),fF hpos (by omega)];simp only[ab,ac,aa];rw[cN m2];simp only[aa];rw[kD hkk rq rx rp bq bx bp,sg.ln,ak (by omega),aa];dsimp only;rw[ih];rfl
theorem AM {kk:Nat}(hkk:400≤kk){l:List PtG}(g:Poly l){p:PtG}(hp:okP p=true):f65 kk l p.1.1 p.1.2.1 p.1.2.2 p.2.1 p.2.2.1 p.2.2.2=some ((nP l p 1 0 l,()),()):=by have hn:=g.n16;unfold f65;have:=vW hkk g hp l 0 kk 1 (ρ:=((Int×Unit)×Unit)) (λx17:((Int×Unit)×Unit)=>some ((x17.1.1,()),()),()) rfl (by omega);rw[show((0:Nat):Int)=0 from rfl]at this;rw[this]
theorem ug {kk:Nat}(hkk:400≤kk){l:List PtG}(g:Poly l){p:PtG}(hp:okP p=true):∀(r:List PtG)(i j:Nat)(m:Int){ρ:Type}(nx:((((Int×Unit)×Unit)->Option ρ)×Unit)),l.drop i=r->r.length+1≤j->
    lT kk j l (gN l) m (i:Int) p.1.1 p.1.2.1 p.1.2.2 p.2.1 p.2.2.1 p.2.2.2 nx=nx.1 ((nP l p m i r,()),())
 |[],i,j,m,ρ,nx,h,hj=>by
  obtain⟨j,rfl⟩:=aA hj;unfold lT;rw[aP h];rfl
 |q::r,i,j,m,ρ,nx,h,hj=>by
  obtain⟨j,rfl⟩:=aA hj;have hi:=aK h;have hn:=g.n16;have hq:okP q=true:=g.ok q (aX (aO h));obtain⟨rq,bq⟩:=cA hq;obtain⟨rp,bp⟩:=cA hp;have hdir:=Hb h;obtain⟨d0,d1,_⟩:=iw (g.dir h);change 0≤aI q (atN l ((i+1)%l.length))at d0;change aI q (atN l ((i+1)%l.length))<16 at d1;obtain⟨u1,u2,u3,u4,u5,u6,h1,h2⟩:=qj (kk:=kk) hkk (by omega) rp rq (bp.mono (by omega)) (bq.mono (by omega));have ih:=λm=>ug hkk g hp r (i+1) j m nx (an h) (by simp only[ax]at hj;omega)
  unfold lT;rw[aJ h,aE h,cO,hdir];simp only[ab,aa];rw[h1,aa];dsimp only;unfold nP;generalize aI q (atN l ((i+1)%l.length))=d at*;obtain⟨z1,z2,z3,k5,k6⟩:=jq (d:=d+4) (N:=268435456) hkk (by omega) (by omega) (by omega) h2 ((bp.sub bq).mono (by omega)) (by omega) (by omega);have k7:=Rp.lx (kk:=kk) k6 (M:=1610612736) (by omega) (by omega) ((fK (dx _) (bp.sub bq)).mono (by omega));rw[aw (x:=d+4) (by omega) (by omega),k5,aa];dsimp only;rw[k7,aa,zd,ak (by omega)];dsimp only;rw[ih,ih];cases decide ((ao (vec d) (aD (pt p) (pt q))).sg<m)<;>rfl
theorem yc {kk:Nat}(hkk:400≤kk){l:List PtG}(g:Poly l){p:PtG}(hp:okP p=true):f132 kk l (gN l) p.1.1 p.1.2.1 p.1.2.2 p.2.1 p.2.2.1 p.2.2.2=some ((nP l p 1 0 l,()),()):=by have hn:=g.n16;unfold f132;have:=ug hkk g hp l 0 kk 1 (ρ:=((Int×Unit)×Unit)) (λx17:((Int×Unit)×Unit)=>some ((x17.1.1,()),()),()) rfl (by omega);rw[show((0:Nat):Int)=0 from rfl]at this;rw[this]
def sdP (dl:Int)(O:Z2)(p:PtG):Int:=((dot (vec (dl+4)) (pt p)).sub O).sg
def sdV (dl:Int)(O:Z2)(V:V2):Int:=((dot (vec (dl+4)) V).sub (sc O)).sg
theorem JC (dl:Int)(O:Z2)(p:PtG):sdV dl O (v8 (pt p))=sdP dl O p:=by unfold sdV sdP;rw[Ed,LW,RF]
def mtV (dl:Int)(O:Z2)(p q:PtG):V2:=sO (aI p q%8) dl (dot (vec (aI p q%8+4)) (pt p)) O
theorem Bq {dl:Int}(h0:0≤dl)(h1:dl<16){p q:PtG}(hd:aI p q≠ -1):o (dot (vec (dl+4)) (pt p)) (dot (vec (dl+4)) (pt q))=tsg ((aI p q-dl)%16):=by
 obtain⟨d0,d1,sg⟩:=iw hd;have e:(ao (vec dl) (aD (pt q) (pt p))).sg=(ao (vec dl) (vec (aI p q))).sg:=by have h2:=fU sg.d sg.c (vec dl);rw[sg.s,jO]at h2;rw[fj (vec dl) (aD (pt q) (pt p)),fj (vec dl) (vec (bS (aD (pt q) (pt p)))),dT,dT]at h2;unfold aI;omega
 rw[zd,zd,show tsg ((aI p q-dl)%16)=_ from(TP h0 h1 d0 d1).symm];unfold o;rw[<-bu,e];rfl
def edF (dl:Int)(O:Z2)(l:List PtG):Nat->List PtG->List Edg
 |_,[]=>[]
 |i,q::r=>(sdP dl O q,(sdP dl O (atN l ((i+1)%l.length)),(aI q (atN l ((i+1)%l.length))-dl)%16))::edF dl O l (i+1) r
theorem uX (dl:Int)(O:Z2)(l:List PtG):∀(r:List PtG)(i:Nat),(edF dl O l i r).map (·.2.2)=(dsF l i r).map λd=>(d-dl)%16
 |[],_=>rfl
 |q::r,i=>by unfold edF dsF;rw[cR,cR,uX dl O l r (i+1)]
theorem KD {dl:Int}(h0:0≤dl)(h1:dl<16)(O:Z2){l:List PtG}(g:Poly l):∀(r:List PtG)(i:Nat),l.drop i=r->∀e∈edF dl O l i r,EOk e
 |[],_,_,e,he=>by cases he
 |q::r,i,h,e,he=>by
  unfold edF at he;rcases aG.1 he with rfl|he
  . refine⟨df _,df _,?_,by simp only;omega⟩;simp only;rw[<-Bq h0 h1 (g.dir h)];exact tr3 O _ _
  . exact KD h0 h1 O g r (i+1) (an h) e he
theorem Hf (dl:Int)(O:Z2)(l:List PtG):∀(r:List PtG)(i:Nat)(q:PtG),l.drop i=q::r->Chn (sdP dl O q) (edF dl O l i (q::r)) (sdP dl O (atN l 0))
 |[],i,q,h=>by
  have h1:=aK h;have h2:=jB (an h);refine⟨rfl,?_⟩;simp only;rw[show i+1=l.length by omega,Nat.mod_self];rfl
 |p::r,i,q,h=>by have h2:=aK (an h);refine⟨rfl,?_⟩;simp only;rw[jM h2,ss (an h)];exact Hf dl O l r (i+1) p (an h)
theorem AY (dl:Int):∀(D:List Int)(b:Int),okT ((b-dl)%16) (D.map λd=>(d-dl)%16)=okT b D/\smT ((b-dl)%16) (D.map λd=>(d-dl)%16)=smT b D
 |[],b=>⟨rfl,rfl⟩
 |d::r,b=>by
  obtain⟨h1,h2⟩:=AY dl r d;have e:((d-dl)%16-(b-dl)%16)%16=(d-b)%16:=by omega
  simp only[cR,okT,smT,tok,h1,h2,e];exact⟨trivial,trivial⟩
theorem Ho (f:Int->Int):∀(D:List Int)(b:Int),lst (f b) (D.map f)=f (lst b D)
 |[],_=>rfl
 |d::r,_=>Ho f r d
theorem zi {dl:Int}{O:Z2}{l:List PtG}{q:PtG}:∀{r:List PtG}{i:Nat},q∈r->∃e∈edF dl O l i r,e.1=sdP dl O q
 |[],_,h=>by cases h
 |p::r,i,h=>by
  unfold edF;rcases aG.1 h with rfl|h
  . exact⟨_,bQ ..,rfl⟩
  . obtain⟨e,he,h2⟩:=zi (i:=i+1) h;exact⟨e,bk _ he,h2⟩
def iM (dl:Int)(O:Z2)(l:List PtG):Nat->List PtG->List V2
 |_,[]=>[]
 |i,q::r=>((if sdP dl O q=0 then[v8 (pt q)]else[])++(if sdP dl O q*sdP dl O (atN l ((i+1)%l.length))<0 then[mtV dl O q (atN l ((i+1)%l.length))]else[]))++iM dl O l (i+1) r
theorem AE (dl:Int)(O:Z2)(l:List PtG):∀(r:List PtG)(i:Nat),(iM dl O l i r).length=ij (edF dl O l i r)
 |[],_=>rfl
 |q::r,i=>by
  unfold iM edF ij IK;rw[aV,aV,AE dl O l r (i+1)]
  congr 1
  congr 1
  . split<;>rfl
  . split<;>rfl
def fb (dl:Int)(O:Z2)(s:Int)(r:List PtG):Bool:=r.any λq=>decide (s*sdP dl O q>0)
theorem Ej {dl:Int}(h0:0≤dl)(h1:dl<16)(O:Z2){l:List PtG}(g:Poly l)(hp:fb dl O 1 l=true)(hn:fb dl O (-1) l=true):(iM dl O l 0 l).length=2:=by
 rw[AE];have hcv:=g.cv;unfold kX at hcv;simp only[aH,bT]at hcv;obtain⟨c1,c2,c3⟩:=hcv;have hn3:=g.n3
 obtain⟨q,r,e⟩:∃q r,l=q::r:=by cases l with
  |nil=>simp at hn3
  |cons q r=>exact⟨q,r,rfl⟩
 have hl:=uW l l 0 (aI (atN l (l.length-1)) (atN l 0)) rfl (by rw[e];simp);have hs:=AY dl (gN l) (aI (atN l (l.length-1)) (atN l 0));have hlm:=Ho (λd=>(d-dl)%16) (gN l) (aI (atN l (l.length-1)) (atN l 0));have hch:Chn (sdP dl O (atN l 0)) (edF dl O l 0 l) (sdP dl O (atN l 0)):=by have:=Hf dl O l r 0 q (by rw[e];rfl);rw[<-e]at this;rwa[show q=atN l 0 by rw[e];rfl]at this
 refine Pr (edF dl O l 0 l) (sdP dl O (atN l 0)) ((aI (atN l (l.length-1)) (atN l 0)-dl)%16) hch (KD h0 h1 O g l 0 rfl) (by omega) ?_ ?_ ?_ ?_ ?_
 . rw[uX];exact hlm.trans (by rw[show lst (aI (atN l (l.length-1)) (atN l 0)) (gN l)=aI (atN l (l.length-1)) (atN l 0)from hl])
 . rw[uX];exact hs.1.trans c2
 . rw[uX];exact hs.2.trans c3
 . obtain⟨p,hp1,hp2⟩:=oW.1 hp;obtain⟨e,he,h2⟩:=zi (dl:=dl) (O:=O) (l:=l) (i:=0) hp1;exact⟨e,he,by rw[h2];simp only[bT]at hp2;omega⟩
 . obtain⟨p,hp1,hp2⟩:=oW.1 hn;obtain⟨e,he,h2⟩:=zi (dl:=dl) (O:=O) (l:=l) (i:=0) hp1;exact⟨e,he,by rw[h2];simp only[bT]at hp2;omega⟩
theorem p9 {dl:Int}(h0:0≤dl)(h1:dl<8)(O:Z2){p q:PtG}(hd:aI p q≠ -1)(h:sdP dl O p*sdP dl O q<0):aI p q%8≠dl:=by
 intro e;have hr:=(dQ p q).resolve_left hd;have h2:=Bq h0 (by omega) hd;have:tsg ((aI p q-dl)%16)=0:=by unfold tsg;rw[ah (by omega)]
 rw[this,nc]at h2;unfold sdP at h;rw[h2]at h;have:=sq_nonneg ((dot (vec (dl+4)) (pt q)).sub O).sg;omega
def kb (x:N3):Z2:=(x.1*2^(13-x.2.2.toNat),x.2.1*2^(13-x.2.2.toNat))
def du (t:PtG):V2:=(kb t.1,kb t.2)
structure OkQ (t:PtG):Prop where
 pp:Pp 13 (du t) t.1.1 t.1.2.1 t.1.2.2 t.2.1 t.2.2.1 t.2.2.2
 bd:Bp 137438953472 (du t)
theorem Fo {V:V2}{a b c d e f:Int}(h:Pp 13 V a b c d e f):du ((a,(b,c)),(d,(e,f)))=V:=
 Prod.ext (Prod.ext h.x.h1.symm h.x.h2.symm) (Prod.ext h.y.h1.symm h.y.h2.symm)
theorem V3 {V:V2}{a b c d e f:Int}(h:Pp 13 V a b c d e f)(hb:Bp 137438953472 V):OkQ ((a,(b,c)),(d,(e,f))):=by have e:=Fo h;exact⟨by rw[e];exact h,by rw[e];exact hb⟩
theorem RD {p:PtG}(h:okP p=true):OkQ p/\du p=v8 (pt p):=by obtain⟨r,b⟩:=cA h;have e:=Fo r.lift;exact⟨⟨by rw[show du p=v8 (pt p)from e];exact r.lift,by rw[show du p=v8 (pt p)from e];exact b.v8.mono (by omega)⟩,e⟩
structure Ln (dl:Int)(O:Z2)(o1 o2 o3:Int):Prop where
 d0:0≤dl
 d1:dl<8
 r:Rp 10 O o1 o2 o3
 b:Bd 805306368 O
section
variable {kk : Nat} {dl o1 o2 o3 : Int} {O : Z2}
theorem L1 (hkk:400≤kk)(L:Ln dl O o1 o2 o3){t:PtG}(h:OkQ t):f172 kk dl o1 o2 o3 t.1.1 t.1.2.1 t.1.2.2 t.2.1 t.2.2.1 t.2.2.2=some ((sdV dl O (du t),()),()):=by have d0:=L.d0;have d1:=L.d1;obtain⟨x1,x2,x3,h1,h2⟩:=mV (kk:=kk) (M:=1) (N:=137438953472) hkk (by omega) (hU (dl+4)) h.pp (dx _) h.bd (by omega) (by omega) (by omega) (by omega);have hb:=fK (dx (dl+4)) h.bd;obtain⟨y1,y2,y3,h3,h4⟩:=iq (kk:=kk) (k:=13) hkk (by omega) h2 L.r.lift (hb.mono (by omega)) (L.b.sc.mono (by omega));have h5:=Rp.sign (kk:=kk) trivial h4 (M:=831085608960) (by omega) (by omega) ((hb.sub L.b.sc).mono (by omega));unfold f172 f173;rw[aw (x:=dl+4) (by omega) (by omega),kG kk (dl+4) (by omega) (by omega)];simp only[aa];rw[h1];simp only[aa];rw[h3];simp only[aa];rw[h5];rfl
theorem yC (hkk:400≤kk)(L:Ln dl O o1 o2 o3){t:PtG}(h:okP t=true):f172 kk dl o1 o2 o3 t.1.1 t.1.2.1 t.1.2.2 t.2.1 t.2.2.1 t.2.2.2=some ((sdP dl O t,()),()):=by obtain⟨h1,h2⟩:=RD h;rw[L1 hkk L h1,h2,JC]
theorem AP (hkk:400≤kk){p:PtG}(hp:okP p=true){a:Int}(a0:0≤a)(a1:a<8):
    ∃o1 o2 o3,f119 kk p.1.1 p.1.2.1 p.1.2.2 p.2.1 p.2.2.1 p.2.2.2 a=some (((a,o1,o2,o3,()),()),())/\Ln a (dot (vec (a+4)) (pt p)) o1 o2 o3:=by
 obtain⟨r,b⟩:=cA hp;obtain⟨x1,x2,x3,h1,h2⟩:=mV (kk:=kk) (M:=1) (N:=134217728) hkk (by omega) (hU (a+4)) r (dx _) b (by omega) (by omega) (by omega) (by omega);refine⟨x1,x2,x3,?_,a0,a1,h2,(fK (dx (a+4)) b).mono (by omega)⟩;unfold f119 f173;rw[aw (x:=a+4) (by omega) (by omega),kG kk (a+4) (by omega) (by omega)];simp only[aa];rw[h1];rfl
theorem FV (hkk:400≤kk){p q:PtG}(hp:okP p=true)(hq:okP q=true)(hd:aI p q≠ -1):
    ∃o1 o2 o3 b,f215 kk p.1.1 p.1.2.1 p.1.2.2 p.2.1 p.2.2.1 p.2.2.2 q.1.1 q.1.2.1 q.1.2.2 q.2.1 q.2.2.1 q.2.2.2=some (((aI p q%8,o1,o2,o3,()),b,()),())/\Ln (aI p q%8) (dot (vec (aI p q%8+4)) (pt p)) o1 o2 o3:=by
 have hr:=(dQ p q).resolve_left hd;obtain⟨o1,o2,o3,h1,h2⟩:=AP (kk:=kk) hkk hp (a:=aI p q%8) (by omega) (by omega);refine⟨o1,o2,o3,decide (aI p q<8),?_,h2⟩;unfold f215;rw[mU hkk hp hq,aa];dsimp only;rw[yI hr.1,h1];rfl
def iP (dl:Int)(O:Z2)(s:Int)(l:List PtG):Nat->List PtG->List V2
 |_,[]=>[]
 |i,q::r=>((if 0≤s*sdP dl O q then[v8 (pt q)]else[])++(if sdP dl O q*sdP dl O (atN l ((i+1)%l.length))<0 then[mtV dl O q (atN l ((i+1)%l.length))]else[]))++iP dl O s l (i+1) r
theorem Su (hkk:400≤kk)(L:Ln dl O o1 o2 o3){p q:PtG}(hp:okP p=true)(hq:okP q=true)(hd:aI p q≠ -1){s:Int}(hs:s=1\/s= -1):
    ∃ts:List PtG,ts.map du=(if sdP dl O p*sdP dl O q<0 then[mtV dl O p q]else[])/\(∀t∈ts,OkQ t)/\ts.length≤1/\∀(A B:List PtG)(h:Bool)(m i:Int)(acc:List PtG){ρ:Type}(nx:(((((List PtG)×Int×Unit×Unit×Bool×(List PtG)×Int×Int×Unit)×((Int×Int×Int×Int×Unit)×(List PtG)×Unit))->Option ρ)×Unit)),acc.length≤1000->
     jZ kk A s h (wr .i64 (s*sdP dl O p)) (wr .i64 (s*sdP dl O q)) B m i dl o1 o2 o3 acc p.1.1 p.1.2.1 p.1.2.2 p.2.1 p.2.2.1 p.2.2.2 q.1.1 q.1.2.1 q.1.2.2 q.2.1 q.2.2.1 q.2.2.2 nx=nx.1 ((A,s,(),(),h,B,m,i,()),((dl,o1,o2,o3,()),acc++ts,())):=by
 have b1: -1≤sdP dl O p/\sdP dl O p≤1:=df _;have b2: -1≤sdP dl O q/\sdP dl O q≤1:=df _
 have hw:wr .i64 ((wr .i64 (s*sdP dl O p))*(wr .i64 (s*sdP dl O q)))=sdP dl O p*sdP dl O q:=by
  have b3:=mQ b1 b2;rcases hs with rfl|rfl
  . rw[jO,jO,aw (x:=sdP dl O p) (by omega) (by omega),aw (x:=sdP dl O q) (by omega) (by omega),aw (by omega) (by omega)]
  . rw[aw (x:= -1*sdP dl O p) (by omega) (by omega),aw (x:= -1*sdP dl O q) (by omega) (by omega),show(-1*sdP dl O p)*(-1*sdP dl O q)=sdP dl O p*sdP dl O q by rw[Int.neg_one_mul,Int.neg_one_mul,Int.neg_mul_neg],aw (by omega) (by omega)]
 by_cases hx:sdP dl O p*sdP dl O q<0
 . rw[ah hx];have hr:=(dQ p q).resolve_left hd;obtain⟨u1,u2,u3,b,h1,h2⟩:=FV (kk:=kk) hkk hp hq hd;obtain⟨x1,x2,x3,x4,x5,x6,h3,h4⟩:=FJ (kk:=kk) hkk h2.d0 h2.d1 L.d0 L.d1 (p9 L.d0 L.d1 O hd hx) h2.r L.r h2.b L.b;have hb:=Hq h2.d0 h2.d1 L.d0 L.d1 (p9 L.d0 L.d1 O hd hx) h2.b L.b;refine⟨[((x1,(x2,x3)),(x4,(x5,x6)))],by rw[cR,Fo h4];rfl,λt ht=>by rw[bG.1 ht];exact V3 h4 hb,aM _,?_⟩;intro A B h m i acc ρ nx ha;unfold jZ;rw[hw,ai hx,ab,h1];simp only[aa];rw[h3];simp only[aa];rw[ai (p:=(acc.length+_)*48≤roomy) (by simp only[ax,br,roomy];omega)];rfl
 . rw[ae hx];refine⟨[],rfl,λt ht=>(by cases ht),by simp,?_⟩;intro A B h m i acc ρ nx ha;unfold jZ;rw[hw,al hx,ac,eO]
theorem m9 (s:Int)(q:PtG)(r:List PtG):fb dl O s (q::r)=(decide (s*sdP dl O q>0)||fb dl O s r):=rfl
theorem A6 (hkk:400≤kk)(L:Ln dl O o1 o2 o3){l:List PtG}(g:Poly l){s:Int}(hs:s=1\/s= -1):∀(r:List PtG)(i:Nat),l.drop i=r->
    ∃ts:List PtG,ts.map du=iP dl O s l i r/\(∀t∈ts,OkQ t)/\ts.length≤2*r.length/\∀(j:Nat)(h:Bool)(acc:List PtG){ρ:Type}(nx:((((Unit×Bool×Unit)×((List PtG)×Unit))->Option ρ)×Unit)),r.length+1≤j->acc.length≤2*i->
     jr kk j l s h l (l.length:Int) (i:Int) dl o1 o2 o3 acc nx=nx.1 (((),h||fb dl O s r,()),(acc++ts,()))
 |[],i,h=>by
  refine⟨[],rfl,λt ht=>(by cases ht),aM _,?_⟩;intro j hh acc ρ nx hj ha;obtain⟨j,rfl⟩:=aA hj;unfold jr;rw[aP h];simp[fb]
 |q::r,i,h=>by
  have hi:=aK h;have hn:=g.n16;have hpos:0<l.length:=by omega
  have m2:(i+1)%l.length<l.length:=gM _ hpos;have hq:okP q=true:=g.ok q (aX (aO h));have hx:=g.ok _ (dA m2);obtain⟨ts,t1,t2,t3,t4⟩:=A6 hkk L g hs r (i+1) (an h);obtain⟨us,u1,u2,u3,u4⟩:=Su (kk:=kk) hkk L hq hx (g.dir h) hs;obtain⟨oq,vq⟩:=RD hq;have b1: -1≤sdP dl O q/\sdP dl O q≤1:=df _
  have hw:wr .i64 (s*sdP dl O q)=s*sdP dl O q:=by
   rcases hs with rfl|rfl
   . exact aw (by omega) (by omega)
   . exact aw (by omega) (by omega)
  unfold iP;simp only[m9];by_cases hc:0≤s*sdP dl O q
  . rw[ah hc];refine⟨([q]++us)++ts,by rw[gu,gu,t1,u1,cR,vq];rfl,λt ht=> ?_,by simp only[aV,ax,br];omega,?_⟩
    . rcases aC.1 ht with ht|ht
      . rcases aC.1 ht with ht|ht
        . rw[bG.1 ht];exact oq
        . exact u2 t ht
      . exact t2 t ht
    . intro j hh acc ρ nx hj ha;obtain⟨j,rfl⟩:=aA hj;have t5:=λhh=>t4 j hh ((acc++[q])++us) nx (by simp only[ax]at hj;omega) (by simp only[aV,ax,br];omega)
      unfold jr;rw[aJ h,aE h,al (p:=(l.length:Int)=0) (by omega),fF hpos (by omega)];simp only[ab,ac,aa];rw[cN m2];simp only[aa];rw[yC hkk L hq,yC hkk L hx];simp only[aa];rw[hw,ai (p:=s*sdP dl O q≥0) hc,ai (p:=(acc.length+[q].length)*48≤roomy) (by simp only[ax,br,roomy];omega)];rw[hw]at u4;simp only[ab];have e:(acc++[q])++us++ts=acc++([q]++us++ts):=by simp only[bL]
      cases hh with
      |true=>
       rw[ab,u4 _ _ _ _ _ _ _ (by rw[aV];simp;omega)];dsimp only;rw[ak (by omega),t5,e];simp
      |false=>rw[ac,u4 _ _ _ _ _ _ _ (by rw[aV];simp;omega)];dsimp only;rw[ak (by omega),t5,e];simp
  . rw[ae hc,List.nil_append];refine⟨us++ts,by rw[gu,t1,u1],λt ht=> ?_,by simp only[aV,ax];omega,?_⟩
    . rcases aC.1 ht with ht|ht
      . exact u2 t ht
      . exact t2 t ht
    . intro j hh acc ρ nx hj ha;obtain⟨j,rfl⟩:=aA hj;have t5:=λhh=>t4 j hh (acc++us) nx (by simp only[ax]at hj;omega) (by simp only[aV];omega)
      unfold jr;rw[aJ h,aE h,al (p:=(l.length:Int)=0) (by omega),fF hpos (by omega)];simp only[ab,ac,aa];rw[cN m2];simp only[aa];rw[yC hkk L hq,yC hkk L hx];simp only[aa];rw[hw,al (p:=s*sdP dl O q≥0) hc];rw[hw]at u4;simp only[ac];rw[u4 _ _ _ _ _ _ _ (by omega)];dsimp only;rw[ak (by omega),t5,al (p:=s*sdP dl O q>0) (by omega),hY,bL]
theorem xK (hkk:400≤kk){x y:N3}{M:Int}(rx:Rp 13 (kb x) x.1 x.2.1 x.2.2)(ry:Rp 13 (kb y) y.1 y.2.1 y.2.2)(bx:Bd M (kb x))(by':Bd M (kb y))(hM:0≤M)(hM2:M≤1152921504606846976):f158 kk x.1 x.2.1 x.2.2 y.1 y.2.1 y.2.2=some ((((kb x).sub (kb y)).sg,()),()):=by obtain⟨a,b,c,h1,h2⟩:=iq (kk:=kk) hkk (by omega) rx ry (bx.mono (by omega)) (by'.mono (by omega));have h3:=Rp.sign (kk:=kk) trivial h2 (M:=M+M) (by omega) (by omega) (bx.sub by');unfold f158;rw[h1,aa];dsimp only;rw[h3,aa]
theorem Ks (hkk:400≤kk){p q:PtG}(hp:OkQ p)(hq:OkQ q):∃c,f107 kk p.1.1 p.1.2.1 p.1.2.2 p.2.1 p.2.2.1 p.2.2.2 q.1.1 q.1.2.1 q.1.2.2 q.2.1 q.2.2.1 q.2.2.2=some ((c,()),()):=by
 unfold f107;rw[xK (M:=137438953472) hkk hp.pp.x hq.pp.x hp.bd.1 hq.bd.1 (by omega) (by omega),xK (M:=137438953472) hkk hp.pp.y hq.pp.y hp.bd.2 hq.bd.2 (by omega) (by omega)];simp only[aa]
 cases ((kb p.1).sub (kb q.1)).sg !=0 with
 |true=>exact⟨_,rfl⟩
 |false=>exact⟨_,rfl⟩
theorem uh (hkk:400≤kk)(K:List PtG)(hK:∀p∈K,OkQ p)(hlen:K.length≤40):∀(r:List PtG)(b i:Nat),K.drop i=r->b<K.length->∃b':Nat,b'<K.length/\∀(j:Nat){ρ:Type}(nx:((((Int×Unit)×Unit)->Option ρ)×Unit)),r.length+1≤j->
    iG kk j K (b:Int) K (K.length:Int) (i:Int) nx=nx.1 (((b':Int),()),())
 |[],b,i,h,hb=>by
  refine⟨b,hb,λj ρ nx hj=> ?_⟩;obtain⟨j,rfl⟩:=aA hj;unfold iG;rw[aP h];rfl
 |q::r,b,i,h,hb=>by
  have hi:=aK h;obtain⟨c,hc⟩:=Ks (kk:=kk) hkk (hK q (aX (aO h))) (hK _ (dA hb));obtain⟨b',hb',e⟩:=uh hkk K hK hlen r (if c<0 then i else b) (i+1) (an h) (by split<;>omega);refine⟨b',hb',λj ρ nx hj=> ?_⟩;obtain⟨j,rfl⟩:=aA hj;have e2:=e j nx (by simp only[ax]at hj;omega);unfold iG;rw[aJ h,aE h,cN hb,ak (by omega)];simp only[ab,aa];rw[hc];simp only[aa];by_cases q1:c<0
  . rw[ah q1]at e2;rw[ai q1];exact e2
  . rw[ae q1]at e2;rw[al q1];exact e2
theorem LL (hkk:400≤kk)(K:List PtG)(hK:∀p∈K,OkQ p)(hlen:K.length≤40)(hne:K≠[]):∃b,f169 kk K=some (((),()),(K.drop b++K.take b,())):=by have hp:=lB.2 hne;obtain⟨b,hb,e⟩:=uh hkk K hK hlen K 0 0 rfl hp;have e2:=e kk (ρ:=((Int×Unit)×Unit)) (λx10:((Int×Unit)×Unit)=>some ((x10.1.1,()),()),()) (by omega);rw[show((0:Nat):Int)=0 from rfl]at e2;refine⟨b,?_⟩;unfold f169 f213;rw[show((K.length:Int)==0)=false from bo (by omega),e2];simp only[ac,aa];rw[ai (p:=(0:Int)≤(b:Int)) (by omega),ai (p:=(b:Int)≤(K.length:Int)) (by omega),ai (p:=(K.length:Int)≤(K.length:Int)) (by omega),rZ,r6,AA hkk _ _ (by rw[eV];omega) (by rw[da];omega)];rfl
theorem ER {s:Int}{l:List PtG}:∀(r:List PtG)(i:Nat),fb dl O s r=true->iP dl O s l i r≠[]
 |[],_,h=>by cases h
 |q::r,i,h=>by
  unfold iP;rw[m9,eB,bT]at h;rcases h with h|h
  . rw[ah (by omega)];simp
  . intro e;exact ER r (i+1) h (List.append_eq_nil_iff.1 e).2
theorem Hz (hkk:400≤kk)(L:Ln dl O o1 o2 o3){l:List PtG}(g:Poly l){s:Int}(hs:s=1\/s= -1):
    ∃ts:List PtG,f171 kk l dl o1 o2 o3 s=some (((),()),(ts,()))/\(fb dl O s l=false->ts=[])/\(fb dl O s l=true->ts≠[]/\ts.length≤40/\(∀t∈ts,OkQ t)/\∃b,ts.map du=(iP dl O s l 0 l).drop b++(iP dl O s l 0 l).take b):=by
 have hn:=g.n16;obtain⟨ts,t1,t2,t3,t4⟩:=A6 (kk:=kk) hkk L g hs l 0 rfl;unfold f171
 have t5:=t4 kk false [] (ρ:=((Unit×Unit)×((List PtG)×Unit))) (λx95:((Unit×Bool×Unit)×((List PtG)×Unit))=>
     bif(!x95.1.2.1)then
      some (((),()),(([]:List PtG),()))
     else
      (f169 kk x95.2.1).bind λx96=>
      some (((),()),(x96.2.1,())),
  ()) (by omega) (by simp)
 rw[show((0:Nat):Int)=0 from rfl]at t5;rw[t5];simp only[hY,List.nil_append]
 cases hh:fb dl O s l with
 |false=>exact⟨[],rfl,λ_=>rfl,λh=>by cases h⟩
 |true=>
  have hne:ts≠[]:=λe=>ER (l:=l) l 0 hh (by rw[<-t1,e];rfl)
  obtain⟨b,hb⟩:=LL (kk:=kk) hkk ts t2 (by omega) hne;rw[hb];refine⟨_,rfl,λh=>(by cases h),λ_=>⟨λe=> ?_,by rw[aV,eV,da];omega,λt ht=> ?_,b,by rw[gu,List.map_drop,List.map_take,t1]⟩⟩
  . have h1:ts.drop b=[]/\ts.take b=[]:=List.append_eq_nil_iff.1 e;exact hne (by rw[<-gJ b ts,h1.1,h1.2];rfl)
  . rcases aC.1 ht with ht|ht
    . exact t2 t (List.mem_of_mem_drop ht)
    . exact t2 t (List.mem_of_mem_take ht)
theorem A5 (L:Ln dl O o1 o2 o3){l:List PtG}(g:Poly l):∀(r:List PtG)(i:Nat),l.drop i=r->(iP dl O 1 l i r).filter (λV=>decide (sdV dl O V=0))=iM dl O l i r
 |[],_,_=>rfl
 |q::r,i,h=>by
  unfold iP iM;rw[List.filter_append,List.filter_append,A5 L g r (i+1) (an h)]
  congr 1
  congr 1
  . by_cases h1:sdP dl O q=0
    . rw[ah (by omega),ah h1,kH,JC,ai h1,ah rfl,List.filter_nil]
    . rw[ae h1];by_cases h2:0≤1*sdP dl O q
      . rw[ah h2,kH,JC,al h1,ae (by simp),List.filter_nil]
      . rw[ae h2];rfl
  . by_cases h1:sdP dl O q*sdP dl O (atN l ((i+1)%l.length))<0
    . have hd:=g.dir h;have hr:=(dQ q (atN l ((i+1)%l.length))).resolve_left hd;rw[ah h1,kH,ai,ah rfl,List.filter_nil];unfold sdV mtV;rw[(SA (by omega) (by omega) L.d0 L.d1 (p9 L.d0 L.d1 O hd h1) _ O).1,dw];rfl
    . rw[ae h1];rfl
theorem xG (hkk:400≤kk)(L:Ln dl O o1 o2 o3)(K:List PtG)(hK:∀p∈K,OkQ p)(hlen:K.length≤40):∀(r:List PtG)(i j:Nat)(acc:List PtG){ρ:Type}(nx:((((Unit×Unit×Unit×Unit)×((Int×Int×Int×Int×Int×Int×Unit)×(Int×Int×Int×Int×Int×Int×Unit)×(List PtG)×Unit))->Option ρ)×Unit)),K.drop i=r->r.length+1≤j->acc.length≤i->
    lP kk j (K.length:Int) (i:Int) dl o1 o2 o3 0 0 0 0 0 0 0 0 0 0 0 0 acc K nx=nx.1 (((),(),(),()),((0,0,0,0,0,0,()),(0,0,0,0,0,0,()),acc++r.filter (λt=>decide (sdV dl O (du t)=0)),()))
 |[],i,j,acc,ρ,nx,h,hj,ha=>by
  obtain⟨j,rfl⟩:=aA hj;unfold lP;rw[aP h];simp
 |q::r,i,j,acc,ρ,nx,h,hj,ha=>by
  obtain⟨j,rfl⟩:=aA hj;have hi:=aK h;have ih:=λacc ha=>xG hkk L K hK hlen r (i+1) j acc nx (an h) (by simp only[ax]at hj;omega) ha
  unfold lP;rw[bnd hi,aJ h,bK,aO h];simp only[ab,aa];rw[L1 hkk L (hK q (aX (aO h))),ak (by omega)];simp only[aa,kH];by_cases e:sdV dl O (du q)=0
  . rw[show(sdV dl O (du q)==0)=true from bX.2 e,ai e,ah rfl,ab,ai (p:=(acc.length+[q].length)*48≤roomy) (by simp only[ax,br,roomy];omega),ab,ih _ (by rw[aV];simp;omega),bL];rfl
  . rw[show(sdV dl O (du q)==0)=false from bo e,al e,ae (by simp),ac,ih _ (by omega)]
theorem xX (f:V2->Bool):∀ts:List PtG,(ts.filter λt=>f (du t)).map du=(ts.map du).filter f
 |[]=>rfl
 |t::r=>by rw[kH,cR,kH,<-xX f r];split<;>rfl
theorem Mt (hkk:400≤kk)(L:Ln dl O o1 o2 o3){l:List PtG}(g:Poly l):
    ((fb dl O 1 l&&fb dl O (-1) l)=false->f118 kk l dl o1 o2 o3=some (((0,0,0,0,0,0,()),(0,0,0,0,0,0,()),false,()),()))/\
    ((fb dl O 1 l&&fb dl O (-1) l)=true->∃x y:PtG,OkQ x/\OkQ y/\f118 kk l dl o1 o2 o3=some (((x.1.1,x.1.2.1,x.1.2.2,x.2.1,x.2.2.1,x.2.2.2,()),(y.1.1,y.1.2.1,y.1.2.2,y.2.1,y.2.2.1,y.2.2.2,()),true,()),())/\(iM dl O l 0 l=[du x,du y]\/iM dl O l 0 l=[du y,du x])):=by
 obtain⟨ts,p1,p2,p3⟩:=Hz (kk:=kk) hkk L g (s:=1) (.inl rfl);obtain⟨us,q1,q2,q3⟩:=Hz (kk:=kk) hkk L g (s:= -1) (.inr rfl);unfold f118;rw[p1,q1];simp only[aa]
 cases h1:fb dl O 1 l with
 |false=>
  rw[p2 h1];exact⟨λ_=>rfl,λh=>by simp at h⟩
 |true=>
  obtain⟨e1,e2,e3,b,e4⟩:=p3 h1;rw[show(((ts.length:Nat):Int)==0)=false from bo (by have:=lB.2 e1;omega)]
  cases h2:fb dl O (-1) l with
  |false=>
   rw[q2 h2];exact⟨λ_=>rfl,λh=>by simp at h⟩
  |true=>
   refine⟨λh=>(by simp at h),λ_=> ?_⟩;obtain⟨f1,_⟩:=q3 h2;rw[show(((us.length:Nat):Int)==0)=false from bo (by have:=lB.2 f1;omega)];simp only[ac]
   have hl:=xG (kk:=kk) hkk L ts e3 e2 ts 0 kk [] (ρ:=(((Int×Int×Int×Int×Int×Int×Unit)×(Int×Int×Int×Int×Int×Int×Unit)×Bool×Unit)×Unit))
    (λx61:((Unit×Unit×Unit×Unit)×((Int×Int×Int×Int×Int×Int×Unit)×(Int×Int×Int×Int×Int×Int×Unit)×(List PtG)×Unit))=>
     bif decide (0≤0)&&decide (0<(x61.2.2.2.1.length:Int))then
      (x61.2.2.2.1[0]?).bind λx62=>
      bif decide (0≤(wr .i64 ((x61.2.2.2.1.length:Int)-1)))&&decide ((wr .i64 ((x61.2.2.2.1.length:Int)-1))<(x61.2.2.2.1.length:Int))then
       (x61.2.2.2.1[(wr .i64 ((x61.2.2.2.1.length:Int)-1)).toNat]?).bind λx63=>
       some (((x62.1.1,x62.1.2.1,x62.1.2.2,x62.2.1,x62.2.2.1,x62.2.2.2,()),(x63.1.1,x63.1.2.1,x63.1.2.2,x63.2.1,x63.2.2.1,x63.2.2.2,()),true,()),())
      else
       none
     else
      none,
    ()) rfl (by omega) (by simp)
   rw[show((0:Nat):Int)=0 from rfl,List.nil_append]at hl;rw[hl];have htwo:=Ej L.d0 (by have:=L.d1;omega) O g h1 h2;have hpe:=A5 L g l 0 rfl;have hv:=xX (λV=>decide (sdV dl O V=0)) ts;rw[e4,List.filter_append]at hv;have hsplit:(iP dl O 1 l 0 l).filter (λV=>decide (sdV dl O V=0))=((iP dl O 1 l 0 l).take b).filter (λV=>decide (sdV dl O V=0))++((iP dl O 1 l 0 l).drop b).filter (λV=>decide (sdV dl O V=0)):=by rw[<-List.filter_append,gJ]
   rw[hpe]at hsplit;generalize hF:ts.filter (λt=>decide (sdV dl O (du t)=0))=F at*;generalize ((iP dl O 1 l 0 l).take b).filter (λV=>decide (sdV dl O V=0))=A at*;generalize ((iP dl O 1 l 0 l).drop b).filter (λV=>decide (sdV dl O V=0))=B at*;have hFl:F.length=2:=by have h5:=congrArg List.length hv;have h6:=congrArg List.length hsplit;simp only[dJ,aV]at h5 h6;omega
   have hFo:∀t∈F,OkQ t:=λt ht=>e3 t (by rw[<-hF]at ht;exact(List.mem_filter.1 ht).1)
   obtain⟨x,y,rfl⟩:∃x y,F=[x,y]:=by
    match F,hFl with
    |[x,y],_=>exact⟨x,y,rfl⟩
   refine⟨x,y,hFo x (by simp),hFo y (by simp),rfl,?_⟩;simp only[cR,kJ]at hv;rcases A with _|⟨a,_|⟨c,A⟩⟩
   . left;rw[hsplit,hv];simp
   . right;rcases B with _|⟨b',_|⟨d,B⟩⟩
     . simp at hv
     . simp only[List.cons_append,List.nil_append,List.cons.injEq,and_true]at hv;rw[hsplit,hv.1,hv.2];rfl
     . have h5:=congrArg List.length hv;simp only[ax,br,aV]at h5;omega
   . have h5:=congrArg List.length hv;simp only[ax,br,aV]at h5;have hB:B=[]:=lA.1 (by omega);have hA:A=[]:=lA.1 (by omega);subst hA hB;left;rw[hsplit,hv];rfl
end
def ovl (x y a b:Z2):Bool:=decide (((cb (c7 x y) b).sub (c7 (cb x y) a)).sg>0)
theorem xa (x y:Z2):(if(x.sub y).sg>0 then y else x)=cb x y:=by
 unfold cb;rcases jf (x.sub y)with h|h|h
 . rw[ah (by omega),ae (by omega)]
 . rw[ae (by omega),ae (by omega)];exact ly.1 h.2
 . rw[ae (by omega),ah (by omega)]
theorem Jm (x y:Z2):cb x y=cb y x:=by
 rw[<-xa y x];unfold cb;rw[<-j7 x y,dT];by_cases h:(x.sub y).sg<0
 . rw[ah h,ah (by omega)]
 . rw[ae h,ae (by omega)]
theorem K1 (x y:Z2):c7 x y=c7 y x:=by
 unfold c7;rw[<-j7 x y,dT];rcases jf (x.sub y)with h|h|h
 . rw[ah (by omega),ae (by omega)]
 . rw[ae (by omega),ae (by omega)];exact(ly.1 h.2).symm
 . rw[ae (by omega),ah (by omega)]
theorem ON (x y a b:Z2):ovl x y a b=ovl y x a b:=by unfold ovl;rw[Jm x y,K1 x y]
structure Nq (X:Z2)(a b c:Int):Prop where
 r:Rp 13 X a b c
 b:Bd 1099511627776 X
section
variable {kk : Nat} {X Y Z W : Z2} {a1 a2 a3 b1 b2 b3 c1 c2 c3 d1 d2 d3 : Int}
theorem y7 (hkk:400≤kk)(hx:Nq X a1 a2 a3)(hy:Nq Y b1 b2 b3):f158 kk a1 a2 a3 b1 b2 b3=some (((X.sub Y).sg,()),()):=by obtain⟨a,b,c,h1,h2⟩:=iq (kk:=kk) hkk (by omega) hx.r hy.r (hx.b.mono (by omega)) (hy.b.mono (by omega));have h3:=Rp.sign (kk:=kk) trivial h2 (M:=2199023255552) (by omega) (by omega) (hx.b.sub hy.b);unfold f158;rw[h1,aa];dsimp only;rw[h3,aa]
theorem qt (hkk:400≤kk)(hx:Nq X a1 a2 a3)(hy:Nq Y b1 b2 b3)(z1 z2 z3 z4 z5 z6:Int){ρ:Type}(nx:((((Unit×Unit×Bool×Unit)×((Int×Int×Int×Unit)×(Int×Int×Int×Unit)×Unit))->Option ρ)×Unit)):
    qX kk z1 z2 z3 z4 z5 z6 a1 a2 a3 b1 b2 b3 nx=nx.1 (((),(),(decide ((X.sub Y).sg<0)),()),((a1,a2,a3,()),(b1,b2,b3,()),())):=by
 unfold qX;rw[y7 hkk hx hy];rfl
theorem Pc (hkk:400≤kk){d:Int}(h0:0≤d)(h1:d<16){p q x y:PtG}(hp:okP p=true)(hq:okP q=true)(hd:aI p q=d)(hdn:d≠ -1)(hx:OkQ x)(hy:OkQ y):
    ∃u v,f120 kk (vec d).1.1 (vec d).1.2 0 (vec d).2.1 (vec d).2.2 0 p.1.1 p.1.2.1 p.1.2.2 p.2.1 p.2.2.1 p.2.2.2 q.1.1 q.1.2.1 q.1.2.2 q.2.1 q.2.2.1 q.2.2.2 x.1.1 x.1.2.1 x.1.2.2 x.2.1 x.2.2.1 x.2.2.2 y.1.1 y.1.2.1 y.1.2.2 y.2.1 y.2.2.1 y.2.2.2=some ((u,v,ovl (dot (vec d) (du x)) (dot (vec d) (du y)) (sc (dot (vec d) (pt p))) (sc (dot (vec d) (pt q))),()),()):=by
 have vb:=dx d;obtain⟨rp,bp⟩:=cA hp;obtain⟨rq,bq⟩:=cA hq;obtain⟨A1,A2,A3,k1,k2⟩:=mV (kk:=kk) (M:=1) (N:=134217728) hkk (by omega) (hU d) rp vb bp (by omega) (by omega) (by omega) (by omega);obtain⟨B1,B2,B3,k3,k4⟩:=mV (kk:=kk) (M:=1) (N:=134217728) hkk (by omega) (hU d) rq vb bq (by omega) (by omega) (by omega) (by omega);obtain⟨C1,C2,C3,k5,k6⟩:=mV (kk:=kk) (M:=1) (N:=137438953472) hkk (by omega) (hU d) hx.pp vb hx.bd (by omega) (by omega) (by omega) (by omega);obtain⟨D1,D2,D3,k7,k8⟩:=mV (kk:=kk) (M:=1) (N:=137438953472) hkk (by omega) (hU d) hy.pp vb hy.bd (by omega) (by omega) (by omega) (by omega);have nA:Nq (sc (dot (vec d) (pt p))) A1 A2 A3:=⟨k2.lift,(fK vb bp).sc.mono (by omega)⟩;have nB:Nq (sc (dot (vec d) (pt q))) B1 B2 B3:=⟨k4.lift,(fK vb bq).sc.mono (by omega)⟩;have nC:Nq (dot (vec d) (du x)) C1 C2 C3:=⟨k6,(fK vb hx.bd).mono (by omega)⟩;have nD:Nq (dot (vec d) (du y)) D1 D2 D3:=⟨k8,(fK vb hy.bd).mono (by omega)⟩
 have hab:((sc (dot (vec d) (pt p))).sub (sc (dot (vec d) (pt q)))).sg= -1:=by
  have hdn':bS (aD (pt q) (pt p))≠ -1:=by rw[show bS (aD (pt q) (pt p))=d from hd];exact hdn
  obtain⟨_,_,sg⟩:=iw hdn';rw[show bS (aD (pt q) (pt p))=d from hd]at sg;have:=sg.s;rw[dD]at this;rw[LW,RF,<-j7,dT,this]
 unfold f120 f174;rw[k1];simp only[aa];rw[k3];simp only[aa];rw[y7 hkk nA nB,k5];simp only[aa];rw[k7,hab];simp only[aa];rw[y7 hkk nC nD,al (p:=(-1:Int)>0) (by omega)];simp only[aa,ac];generalize sc (dot (vec d) (pt p))=A at*;generalize sc (dot (vec d) (pt q))=B at*;generalize dot (vec d) (du x)=C at*;generalize dot (vec d) (du y)=D at*
 have fin:∀{E F:Z2}{e1 e2 e3 f1 f2 f3:Int},Nq E e1 e2 e3->Nq F f1 f2 f3->∃u v,((f158 kk e1 e2 e3 A1 A2 A3).bind λx41=>
     bif(decide (x41.1.1>0))then
      lQ kk 0 0 0 0 0 0 e1 e2 e3 B1 B2 B3 f1 f2 f3
       (λx42:((Unit×Unit×Bool×Unit)×((Int×Int×Int×Unit)×(Int×Int×Int×Unit)×Unit))=>some (((x42.2.1.1,x42.2.1.2.1,x42.2.1.2.2.1,()),(x42.2.2.1.1,x42.2.2.1.2.1,x42.2.2.1.2.2.1,()),x42.1.2.2.1,()),()),
       ())
     else
      lQ kk 0 0 0 0 0 0 A1 A2 A3 B1 B2 B3 f1 f2 f3
       (λx43:((Unit×Unit×Bool×Unit)×((Int×Int×Int×Unit)×(Int×Int×Int×Unit)×Unit))=>some (((x43.2.1.1,x43.2.1.2.1,x43.2.1.2.2.1,()),(x43.2.2.1.1,x43.2.2.1.2.1,x43.2.2.1.2.2.1,()),x43.1.2.2.1,()),()),
       ()))=some ((u,v,decide (((cb F B).sub (c7 E A)).sg>0),()),()):=by
  intro E F e1 e2 e3 f1 f2 f3 hE hF;rw[y7 hkk hE nA];simp only[aa];have last:∀(U V:Z2),decide ((U.sub V).sg<0)=decide ((V.sub U).sg>0):=λU V=>by rw[<-j7 U V,dT];exact jL.2 (by omega)
  by_cases q1:(E.sub A).sg>0
  . rw[ai q1,show c7 E A=E by unfold c7;rw[ah q1]];unfold lQ;rw[y7 hkk hF nB];simp only[aa,ab];by_cases q2:(F.sub B).sg<0
    . rw[ai q2,show cb F B=F by unfold cb;rw[ah q2],ab,qt hkk hE hF,last];exact⟨_,_,rfl⟩
    . rw[al q2,show cb F B=B by unfold cb;rw[ae q2],ac,qt hkk hE nB,last];exact⟨_,_,rfl⟩
  . rw[al q1,show c7 E A=A by unfold c7;rw[ae q1]];unfold lQ;rw[y7 hkk hF nB];simp only[aa,ac];by_cases q2:(F.sub B).sg<0
    . rw[ai q2,show cb F B=F by unfold cb;rw[ah q2],ab,qt hkk nA hF,last];exact⟨_,_,rfl⟩
    . rw[al q2,show cb F B=B by unfold cb;rw[ae q2],ac,qt hkk nA nB,last];exact⟨_,_,rfl⟩
 unfold ovl;by_cases q0:(C.sub D).sg>0
 . rw[ai q0,show cb C D=D by rw[<-xa,ah q0],show c7 C D=C by unfold c7;rw[ah q0]];simp only[ab];exact fin nD nC
 . rw[al q0,show cb C D=C by rw[<-xa,ae q0],show c7 C D=D by unfold c7;rw[ae q0]];simp only[ac];exact fin nC nD
end
def wM (l:List PtG)(p q:PtG):Bool:=
 if aI p q= -1 then false
 else fb (aI p q%8) (dot (vec (aI p q%8+4)) (pt p)) 1 l&&(fb (aI p q%8) (dot (vec (aI p q%8+4)) (pt p)) (-1) l&&
  ovl (dot (vec (aI p q)) ((iM (aI p q%8) (dot (vec (aI p q%8+4)) (pt p)) l 0 l).getD 0 ((0,0),(0,0)))) (dot (vec (aI p q)) ((iM (aI p q%8) (dot (vec (aI p q%8+4)) (pt p)) l 0 l).getD 1 ((0,0),(0,0)))) (sc (dot (vec (aI p q)) (pt p))) (sc (dot (vec (aI p q)) (pt q))))
theorem H0 {kk:Nat}(hkk:400≤kk){l:List PtG}(g:Poly l){p q:PtG}(hp:okP p=true)(hq:okP q=true):f66 kk l p.1.1 p.1.2.1 p.1.2.2 p.2.1 p.2.2.1 p.2.2.2 q.1.1 q.1.2.1 q.1.2.2 q.2.1 q.2.2.1 q.2.2.2=some ((wM l p q,()),()):=by
 unfold f66;rw[mU hkk hp hq,aa];dsimp only;unfold wM;rcases dQ p q with hd|hr
 . rw[hd,ah rfl];rfl
 . rw[al (p:=aI p q<0) (by omega),ae (show aI p q≠ -1 by omega),yI hr.1];obtain⟨o1,o2,o3,h1,h2⟩:=AP (kk:=kk) hkk hp (a:=aI p q%8) (by omega) (by omega);obtain⟨c1,c2⟩:=Mt (kk:=kk) hkk h2 g;rw[h1];simp only[ac,aa]
   cases hb:fb (aI p q%8) (dot (vec (aI p q%8+4)) (pt p)) 1 l&&fb (aI p q%8) (dot (vec (aI p q%8+4)) (pt p)) (-1) l with
   |false=>
    rw[c1 hb,<-Bool.and_assoc,hb];rfl
   |true=>
    obtain⟨x,y,x1,y1,e1,e2⟩:=c2 hb;obtain⟨u,v,s1⟩:=Pc (kk:=kk) hkk hr.1 hr.2 hp hq rfl (show aI p q≠ -1 by omega) x1 y1;rw[e1,<-Bool.and_assoc,hb];simp only[aa,bi,ac];rw[kG kk _ hr.1 hr.2];simp only[aa];rw[s1];simp only[aa,bj];rcases e2 with e2|e2
    . rw[e2];rfl
    . rw[e2,ON];rfl
section
variable {kk : Nat} {dl o1 o2 o3 : Int} {O : Z2}
theorem kF (hkk:400≤kk)(L:Ln dl O o1 o2 o3){t:PtG}(h:okP t=true):f179 kk dl o1 o2 o3 t.1.1 t.1.2.1 t.1.2.2 t.2.1 t.2.2.1 t.2.2.2=some ((sdP dl O t,()),()):=by have d0:=L.d0;have d1:=L.d1;obtain⟨r,b⟩:=cA h;obtain⟨x1,x2,x3,h1,h2⟩:=jq (kk:=kk) (d:=dl+4) (N:=134217728) hkk (by omega) (by omega) (by omega) r b (by omega) (by omega);have hb:=fK (dx (dl+4)) b;obtain⟨y1,y2,y3,h3,h4⟩:=fG (kk:=kk) hkk (by omega) h2 L.r (hb.mono (by omega)) (L.b.mono (by omega));have h5:=Rp.lx (kk:=kk) h4 (M:=1610612736) (by omega) (by omega) ((hb.sub L.b).mono (by omega));unfold f179;rw[aw (x:=dl+4) (by omega) (by omega),h1];simp only[aa];rw[h3];simp only[aa];rw[h5];rfl
theorem EI (hkk:400≤kk)(L:Ln dl O o1 o2 o3){p q:PtG}(hp:okP p=true)(hq:okP q=true)(hd:aI p q≠ -1)(hx:sdP dl O p*sdP dl O q<0):
    ∃u1 u2 u3 u4 u5 u6 v1 v2 v3 x1 x2 x3 x4 x5 x6,f128 kk q.1.1 q.1.2.1 q.1.2.2 q.2.1 q.2.2.1 q.2.2.2 p.1.1 p.1.2.1 p.1.2.2 p.2.1 p.2.2.1 p.2.2.2=some (((u1,u2,u3,u4,u5,u6,()),()),())/\f127 kk u1 u2 u3 u4 u5 u6=some ((aI p q,()),())/\
     f187 kk p.1.1 p.1.2.1 p.1.2.2 p.2.1 p.2.2.1 p.2.2.2 (aI p q)=some (((aI p q%8,v1,v2,v3,()),()),())/\f189 kk (aI p q%8) v1 v2 v3 dl o1 o2 o3=some (((x1,x2,x3,x4,x5,x6,()),()),())/\Pp 13 (mtV dl O p q) x1 x2 x3 x4 x5 x6/\Bp 137438953472 (mtV dl O p q):=by
 have hr:=(dQ p q).resolve_left hd;obtain⟨rp,bp⟩:=cA hp;obtain⟨u1,u2,u3,u4,u5,u6,a1,a2⟩:=qW (kk:=kk) hkk hp hq;obtain⟨v1,v2,v3,b1,b2,b3⟩:=oa (kk:=kk) hkk hr.1 hr.2 rp bp;have hne:=p9 L.d0 L.d1 O hd hx;obtain⟨x1,x2,x3,x4,x5,x6,h3,h4⟩:=EF (kk:=kk) (a:=aI p q%8) hkk (by omega) (by omega) L.d0 L.d1 hne b2 L.r b3 L.b;exact⟨u1,u2,u3,u4,u5,u6,v1,v2,v3,x1,x2,x3,x4,x5,x6,a1,a2,b1,h3,h4,Hq (by omega) (by omega) L.d0 L.d1 hne b3 L.b⟩
theorem M9 (hkk:400≤kk)(L:Ln dl O o1 o2 o3){p q:PtG}(hp:okP p=true)(hq:okP q=true)(hd:aI p q≠ -1){s:Int}(hs:s=1\/s= -1):
    ∃ts:List PtG,ts.length=(if sdP dl O p*sdP dl O q<0 then 1 else 0)/\∀(A:List PtG)(h:Bool)(i:Int)(acc:List PtG){ρ:Type}(nx:(((((List PtG)×Int×Unit×Unit×Bool×Int×Unit)×((Int×Int×Int×Int×Unit)×(List PtG)×Unit))->Option ρ)×Unit)),acc.length≤1000->
     pc kk A s h i (wr .i64 (s*sdP dl O p)) (wr .i64 (s*sdP dl O q)) dl o1 o2 o3 acc p.1.1 p.1.2.1 p.1.2.2 p.2.1 p.2.2.1 p.2.2.2 q.1.1 q.1.2.1 q.1.2.2 q.2.1 q.2.2.1 q.2.2.2 nx=nx.1 ((A,s,(),(),h||decide (s*sdP dl O p>0),i,()),((dl,o1,o2,o3,()),acc++ts,())):=by
 have b1: -1≤sdP dl O p/\sdP dl O p≤1:=df _;have b2: -1≤sdP dl O q/\sdP dl O q≤1:=df _
 have hw0:wr .i64 (s*sdP dl O p)=s*sdP dl O p:=by
  rcases hs with rfl|rfl
  . exact aw (by omega) (by omega)
  . exact aw (by omega) (by omega)
 have hw:wr .i64 ((s*sdP dl O p)*(wr .i64 (s*sdP dl O q)))=sdP dl O p*sdP dl O q:=by
  have b3:=mQ b1 b2;rcases hs with rfl|rfl
  . rw[jO,jO,aw (x:=sdP dl O q) (by omega) (by omega),aw (by omega) (by omega)]
  . rw[aw (x:= -1*sdP dl O q) (by omega) (by omega),show(-1*sdP dl O p)*(-1*sdP dl O q)=sdP dl O p*sdP dl O q by rw[Int.neg_one_mul,Int.neg_one_mul,Int.neg_mul_neg],aw (by omega) (by omega)]
 have inner:∃ts:List PtG,ts.length=(if sdP dl O p*sdP dl O q<0 then 1 else 0)/\∀(A:List PtG)(h:Bool)(i:Int)(acc:List PtG){ρ:Type}(nx:(((((List PtG)×Int×Unit×Unit×Bool×Int×Unit)×((Int×Int×Int×Int×Unit)×(List PtG)×Unit))->Option ρ)×Unit)),acc.length≤1000->
     ma kk A s h i (s*sdP dl O p) (wr .i64 (s*sdP dl O q)) dl o1 o2 o3 acc p.1.1 p.1.2.1 p.1.2.2 p.2.1 p.2.2.1 p.2.2.2 q.1.1 q.1.2.1 q.1.2.2 q.2.1 q.2.2.1 q.2.2.2 nx=nx.1 ((A,s,(),(),h,i,()),((dl,o1,o2,o3,()),acc++ts,())):=by
  by_cases hx:sdP dl O p*sdP dl O q<0
  . obtain⟨u1,u2,u3,u4,u5,u6,v1,v2,v3,x1,x2,x3,x4,x5,x6,m1,m2,m3,m4,_,_⟩:=EI (kk:=kk) hkk L hp hq hd hx;refine⟨[((x1,(x2,x3)),(x4,(x5,x6)))],by rw[ah hx];rfl,?_⟩;intro A h i acc ρ nx ha;unfold ma;rw[hw,ai hx,ab,m1];simp only[aa];rw[m2];simp only[aa];rw[m3];simp only[aa];rw[m4];simp only[aa];rw[ai (p:=(acc.length+_)*48≤roomy) (by simp only[ax,br,roomy];omega)];rfl
  . refine⟨[],by rw[ae hx];rfl,?_⟩;intro A h i acc ρ nx ha;unfold ma;rw[hw,al hx,ac,eO]
 obtain⟨ts,t1,t2⟩:=inner;refine⟨ts,t1,?_⟩;intro A h i acc ρ nx ha;unfold pc;rw[hw0]
 cases h with
 |true=>rw[ab,t2 _ _ _ _ _ ha];rfl
 |false=>rw[ac,t2 _ _ _ _ _ ha,hY]
theorem uf (hkk:400≤kk)(L:Ln dl O o1 o2 o3){l:List PtG}(g:Poly l){s:Int}(hs:s=1\/s= -1):∀(r:List PtG)(i:Nat),l.drop i=r->
    ∃ts:List PtG,(fb dl O s r=true->ts≠[])/\ts.length≤2*r.length/\∀(j:Nat)(h:Bool)(acc:List PtG){ρ:Type}(nx:((((Unit×Bool×Unit)×((List PtG)×Unit))->Option ρ)×Unit)),r.length+1≤j->acc.length≤2*i->
     kn kk j l s h (i:Int) dl o1 o2 o3 acc nx=nx.1 (((),h||fb dl O s r,()),(acc++ts,()))
 |[],i,h=>by
  refine⟨[],λh=>(by cases h),aM _,?_⟩;intro j hh acc ρ nx hj ha;obtain⟨j,rfl⟩:=aA hj;unfold kn;rw[aP h];simp[fb]
 |q::r,i,h=>by
  have hi:=aK h;have hn:=g.n16;have hpos:0<l.length:=by omega
  have m2:(i+1)%l.length<l.length:=gM _ hpos;have hq:okP q=true:=g.ok q (aX (aO h));have hx:=g.ok _ (dA m2);obtain⟨ts,t1,t3,t4⟩:=uf hkk L g hs r (i+1) (an h);obtain⟨us,u1,u4⟩:=M9 (kk:=kk) hkk L hq hx (g.dir h) hs;have u3:us.length≤1:=by rw[u1];split<;>omega
  have b1: -1≤sdP dl O q/\sdP dl O q≤1:=df _
  have hw:wr .i64 (s*sdP dl O q)=s*sdP dl O q:=by
   rcases hs with rfl|rfl
   . exact aw (by omega) (by omega)
   . exact aw (by omega) (by omega)
  by_cases hc:0≤s*sdP dl O q
  . refine⟨([q]++us)++ts,λ_=>by simp,by simp only[aV,ax,br];omega,?_⟩;intro j hh acc ρ nx hj ha;obtain⟨j,rfl⟩:=aA hj;have t5:=λhh=>t4 j hh ((acc++[q])++us) nx (by simp only[ax]at hj;omega) (by simp only[aV,ax,br];omega)
    unfold kn;rw[aJ h,aE h,al (p:=(l.length:Int)=0) (by omega),fF hpos (by omega)];simp only[ab,ac,aa];rw[cN m2];simp only[aa];rw[kF hkk L hq,kF hkk L hx];simp only[aa];rw[u4 _ _ _ _ _ (by rw[aV];simp;omega),hw,ai (p:=s*sdP dl O q≥0) hc,ai (p:=(acc.length+[q].length)*48≤roomy) (by simp only[ax,br,roomy];omega)];dsimp only[ab];rw[ak (by omega),t5,m9,Bool.or_assoc];simp only[bL]
  . refine⟨us++ts,λhh=> ?_,by simp only[aV,ax];omega,?_⟩
    . rw[m9,al (p:=s*sdP dl O q>0) (by omega),hY]at hh;intro e;exact t1 hh (List.append_eq_nil_iff.1 e).2
    intro j hh acc ρ nx hj ha;obtain⟨j,rfl⟩:=aA hj;have t5:=λhh=>t4 j hh (acc++us) nx (by simp only[ax]at hj;omega) (by simp only[aV];omega)
    unfold kn;rw[aJ h,aE h,al (p:=(l.length:Int)=0) (by omega),fF hpos (by omega)];simp only[ab,ac,aa];rw[cN m2];simp only[aa];rw[kF hkk L hq,kF hkk L hx];simp only[aa];rw[show decide (wr .i64 (s*sdP dl O q)≥0)=false by rw[hw];exact al hc,ac,u4 _ _ _ _ _ (by omega)];dsimp only;rw[ak (by omega),t5,m9,Bool.or_assoc,bL]
theorem Hj (hkk:400≤kk)(L:Ln dl O o1 o2 o3){l:List PtG}(g:Poly l){s:Int}(hs:s=1\/s= -1):
    ∃ts:List PtG,f188 kk l dl o1 o2 o3 s=some (((),()),(ts,()))/\((((ts.length:Nat):Int)==0)= !fb dl O s l):=by
 have hn:=g.n16;obtain⟨ts,t1,t3,t4⟩:=uf (kk:=kk) hkk L g hs l 0 rfl;unfold f188
 have t5:=t4 kk false [] (ρ:=((Unit×Unit)×((List PtG)×Unit))) (λx70:((Unit×Bool×Unit)×((List PtG)×Unit))=>
     bif(!x70.1.2.1)then
      some (((),()),(([]:List PtG),()))
     else
      some (((),()),(x70.2.1,())),
  ()) (by omega) (by simp)
 rw[show((0:Nat):Int)=0 from rfl]at t5;rw[t5];simp only[hY,List.nil_append]
 cases hh:fb dl O s l with
 |false=>exact⟨[],rfl,rfl⟩
 |true=>have:=lB.2 (t1 hh);exact⟨ts,rfl,bo (by omega)⟩
def OkM (e:N3):Prop:=Nq (kb e) e.1 e.2.1 e.2.2
theorem Ly {X:Z2}{a b c:Int}(h:Nq X a b c):OkM (a,(b,c))/\kb (a,(b,c))=X:=by have e:kb (a,(b,c))=X:=Prod.ext h.r.h1.symm h.r.h2.symm;exact⟨by unfold OkM;rw[e];exact h,e⟩
theorem KG (hkk:400≤kk)(L:Ln dl O o1 o2 o3){d:Int}(h0:0≤d)(h1:d<16){p q:PtG}(hp:okP p=true)(hq:okP q=true)(hd:aI p q≠ -1):
    ∃es:List N3,es.map kb=(if sdP dl O p*sdP dl O q<0 then[dot (vec d) (mtV dl O p q)]else[])/\(∀e∈es,OkM e)/\es.length≤1/\∀(A:List PtG)(i:Int)(z1 z2 z3 z4 z5 z6 z7 z8 z9 z10 z11 z12:Int)(acc:List N3){ρ:Type}(nx:(((((List PtG)×Unit×Unit×Int×Unit×Unit×Int×Unit)×((Int×Int×Int×Int×Int×Int×Unit)×(Int×Int×Int×Int×Int×Int×Unit)×(Int×Int×Int×Int×Unit)×(List N3)×Unit))->Option ρ)×Unit)),acc.length≤1000->
     lU kk A d i (sdP dl O p) (sdP dl O q) z1 z2 z3 z4 z5 z6 z7 z8 z9 z10 z11 z12 dl o1 o2 o3 acc p.1.1 p.1.2.1 p.1.2.2 p.2.1 p.2.2.1 p.2.2.2 q.1.1 q.1.2.1 q.1.2.2 q.2.1 q.2.2.1 q.2.2.2 nx=nx.1 ((A,(),(),d,(),(),i,()),((z1,z2,z3,z4,z5,z6,()),(z7,z8,z9,z10,z11,z12,()),(dl,o1,o2,o3,()),acc++es,())):=by
 have b1: -1≤sdP dl O p/\sdP dl O p≤1:=df _;have b2: -1≤sdP dl O q/\sdP dl O q≤1:=df _;have b3:=mQ b1 b2;have hw:wr .i64 (sdP dl O p*sdP dl O q)=sdP dl O p*sdP dl O q:=aw (by omega) (by omega);by_cases hx:sdP dl O p*sdP dl O q<0
 . obtain⟨u1,u2,u3,u4,u5,u6,v1,v2,v3,x1,x2,x3,x4,x5,x6,m1,m2,m3,m4,m5,m6⟩:=EI (kk:=kk) hkk L hp hq hd hx;obtain⟨y1,y2,y3,n1,n2⟩:=jq (kk:=kk) (d:=d) (N:=137438953472) hkk (by omega) h0 (by omega) m5 m6 (by omega) (by omega);have nq:Nq (dot (vec d) (mtV dl O p q)) y1 y2 y3:=⟨n2,(fK (dx d) m6).mono (by omega)⟩;obtain⟨w1,w2⟩:=Ly nq;refine⟨[(y1,(y2,y3))],by rw[ah hx,cR,w2];rfl,λt ht=>by rw[bG.1 ht];exact w1,aM _,?_⟩;intro A i z1 z2 z3 z4 z5 z6 z7 z8 z9 z10 z11 z12 acc ρ nx ha;unfold lU;rw[hw,ai hx,ab,m1];simp only[aa];rw[m2];simp only[aa];rw[m3];simp only[aa];rw[m4];simp only[aa];rw[n1];simp only[aa];rw[ai (p:=(acc.length+_)*24≤roomy) (by simp only[ax,br,roomy];omega)];rfl
 . refine⟨[],by rw[ae hx];rfl,λt ht=>(by cases ht),by simp,?_⟩;intro A i z1 z2 z3 z4 z5 z6 z7 z8 z9 z10 z11 z12 acc ρ nx ha;unfold lU;rw[hw,al hx,ac,eO]
theorem xR (hkk:400≤kk)(L:Ln dl O o1 o2 o3){l:List PtG}(g:Poly l){d:Int}(h0:0≤d)(h1:d<16)(z1 z2 z3 z4 z5 z6 z7 z8 z9 z10 z11 z12:Int):∀(r:List PtG)(i:Nat),l.drop i=r->
    ∃es:List N3,es.map kb=(iM dl O l i r).map (dot (vec d))/\(∀e∈es,OkM e)/\es.length≤2*r.length/\∀(j:Nat)(acc:List N3){ρ:Type}(nx:((((Unit×Unit×Int×Unit×Unit)×((Int×Int×Int×Int×Int×Int×Unit)×(Int×Int×Int×Int×Int×Int×Unit)×(List N3)×Unit))->Option ρ)×Unit)),r.length+1≤j->acc.length≤2*i->
     km kk j l d (i:Int) z1 z2 z3 z4 z5 z6 z7 z8 z9 z10 z11 z12 dl o1 o2 o3 acc nx=nx.1 (((),(),d,(),()),((z1,z2,z3,z4,z5,z6,()),(z7,z8,z9,z10,z11,z12,()),acc++es,()))
 |[],i,h=>by
  refine⟨[],rfl,λt ht=>(by cases ht),aM _,?_⟩;intro j acc ρ nx hj ha;obtain⟨j,rfl⟩:=aA hj;unfold km;rw[aP h];simp
 |q::r,i,h=>by
  have hi:=aK h;have hn:=g.n16;have hpos:0<l.length:=by omega
  have m2:(i+1)%l.length<l.length:=gM _ hpos;have hq:okP q=true:=g.ok q (aX (aO h));have hx:=g.ok _ (dA m2);obtain⟨ts,t1,t2,t3,t4⟩:=xR hkk L g h0 h1 z1 z2 z3 z4 z5 z6 z7 z8 z9 z10 z11 z12 r (i+1) (an h);obtain⟨us,u1,u2,u3,u4⟩:=KG (kk:=kk) hkk L h0 h1 hq hx (g.dir h);unfold iM;by_cases hc:sdP dl O q=0
  . obtain⟨rq,bq⟩:=cA hq;obtain⟨y1,y2,y3,n1,n2⟩:=jq (kk:=kk) (d:=d) (N:=134217728) hkk (by omega) h0 (by omega) rq bq (by omega) (by omega);have nq:Nq (dot (vec d) (v8 (pt q))) y1 y2 y3:=⟨by rw[Ed];exact n2.lift,by rw[Ed];exact(fK (dx d) bq).sc.mono (by omega)⟩;obtain⟨w1,w2⟩:=Ly nq;rw[ah hc];refine⟨([(y1,(y2,y3))]++us)++ts,?_,λt ht=> ?_,by simp only[aV,ax,br];omega,?_⟩
    . rw[gu,gu,t1,u1,gu,gu,cR,w2]
      congr 2
      split<;>rfl
    . rcases aC.1 ht with ht|ht
      . rcases aC.1 ht with ht|ht
        . rw[bG.1 ht];exact w1
        . exact u2 t ht
      . exact t2 t ht
    intro j acc ρ nx hj ha;obtain⟨j,rfl⟩:=aA hj;have t5:=t4 j ((acc++[(y1,(y2,y3))])++us) nx (by simp only[ax]at hj;omega) (by simp only[aV,ax,br];omega);unfold km;rw[aJ h,aE h,al (p:=(l.length:Int)=0) (by omega),fF hpos (by omega)];simp only[ab,ac,aa];rw[cN m2];simp only[aa];rw[kF hkk L hq,kF hkk L hx];simp only[aa];rw[show(sdP dl O q==0)=true from bX.2 hc,ab,n1];simp only[aa];rw[ai (p:=(acc.length+_)*24≤roomy) (by simp only[ax,br,roomy];omega),ab,u4 _ _ _ _ _ _ _ _ _ _ _ _ _ _ _ _ (by rw[aV];simp;omega)];dsimp only;rw[ak (by omega),t5];simp only[bL]
  . rw[ae hc,List.nil_append];refine⟨us++ts,?_,λt ht=> ?_,by simp only[aV,ax];omega,?_⟩
    . rw[gu,t1,u1,gu]
      congr 1
      split<;>rfl
    . rcases aC.1 ht with ht|ht
      . exact u2 t ht
      . exact t2 t ht
    intro j acc ρ nx hj ha;obtain⟨j,rfl⟩:=aA hj;have t5:=t4 j (acc++us) nx (by simp only[ax]at hj;omega) (by simp only[aV];omega);unfold km;rw[aJ h,aE h,al (p:=(l.length:Int)=0) (by omega),fF hpos (by omega)];simp only[ab,ac,aa];rw[cN m2];simp only[aa];rw[kF hkk L hq,kF hkk L hx];simp only[aa];rw[show(sdP dl O q==0)=false from bo hc,ac,u4 _ _ _ _ _ _ _ _ _ _ _ _ _ _ _ _ (by omega)];dsimp only;rw[ak (by omega),t5,bL]
end
section
variable {kk : Nat} {X Y : Z2} {a1 a2 a3 b1 b2 b3 : Int}
theorem KR (hkk:400≤kk)(hx:Nq X a1 a2 a3)(hy:Nq Y b1 b2 b3):∃a b c,f182 kk a1 a2 a3 b1 b2 b3=some (((a,b,c,()),()),())/\Nq (cb X Y) a b c:=by
 obtain⟨u,v,w,h6,h7⟩:=fG (kk:=kk) hkk (by omega) hx.r hy.r (hx.b.mono (by omega)) (hy.b.mono (by omega));have h8:=Rp.lx (kk:=kk) h7 (M:=2199023255552) (by omega) (by omega) (hx.b.sub hy.b);unfold f182 cb;rw[h6,aa];dsimp only;rw[h8,aa];dsimp only;by_cases h:(X.sub Y).sg<0
 . rw[ai h,ah h];exact⟨_,_,_,rfl,hx⟩
 . rw[al h,ae h];exact⟨_,_,_,rfl,hy⟩
theorem Rz (hkk:400≤kk)(hx:Nq X a1 a2 a3)(hy:Nq Y b1 b2 b3):∃a b c,f180 kk a1 a2 a3 b1 b2 b3=some (((a,b,c,()),()),())/\Nq (c7 X Y) a b c:=by
 obtain⟨u,v,w,h6,h7⟩:=fG (kk:=kk) hkk (by omega) hx.r hy.r (hx.b.mono (by omega)) (hy.b.mono (by omega));have h8:=Rp.lx (kk:=kk) h7 (M:=2199023255552) (by omega) (by omega) (hx.b.sub hy.b);unfold f180 c7;rw[h6,aa];dsimp only;rw[h8,aa];dsimp only;by_cases h:(X.sub Y).sg>0
 . rw[ai h,ah h];exact⟨_,_,_,rfl,hx⟩
 . rw[al h,ae h];exact⟨_,_,_,rfl,hy⟩
end
theorem FA {kk:Nat}(hkk:400≤kk){l:List PtG}(g:Poly l){p q:PtG}(hp:okP p=true)(hq:okP q=true):f133 kk l p.1.1 p.1.2.1 p.1.2.2 p.2.1 p.2.2.1 p.2.2.2 q.1.1 q.1.2.1 q.1.2.2 q.2.1 q.2.2.1 q.2.2.2=some ((wM l p q,()),()):=by
 have hn16:=g.n16;obtain⟨u1,u2,u3,u4,u5,u6,a1,a2⟩:=qW (kk:=kk) hkk hp hq;unfold f133 wM;rw[a1,aa];dsimp only;rw[a2,aa];dsimp only;rcases dQ p q with hd|hr
 . rw[hd,ah rfl];rfl
 . obtain⟨rp,bp⟩:=cA hp;obtain⟨rq,bq⟩:=cA hq;obtain⟨v1,v2,v3,b1,b2,b3⟩:=oa (kk:=kk) hkk hr.1 hr.2 rp bp;have L:Ln (aI p q%8) (dot (vec (aI p q%8+4)) (pt p)) v1 v2 v3:=⟨by omega,by omega,b2,b3⟩;obtain⟨ts,t1,t2⟩:=Hj (kk:=kk) hkk L g (s:=1) (.inl rfl);obtain⟨us,s1,s2⟩:=Hj (kk:=kk) hkk L g (s:= -1) (.inr rfl);rw[al (p:=aI p q<0) (by omega),ae (show aI p q≠ -1 by omega),ac,b1,aa];dsimp only;rw[t1,aa];dsimp only;rw[t2]
   cases h1:fb (aI p q%8) (dot (vec (aI p q%8+4)) (pt p)) 1 l with
   |false=>rfl
   |true=>
    simp only[bi,ac,bj];rw[s1,aa];dsimp only;rw[s2]
    cases h2:fb (aI p q%8) (dot (vec (aI p q%8+4)) (pt p)) (-1) l with
    |false=>rfl
    |true=>
     simp only[bi,ac,bj];obtain⟨es,e1,e2,e3,e4⟩:=xR (kk:=kk) hkk L g hr.1 hr.2 p.1.1 p.1.2.1 p.1.2.2 p.2.1 p.2.2.1 p.2.2.2 q.1.1 q.1.2.1 q.1.2.2 q.2.1 q.2.2.1 q.2.2.2 l 0 rfl;have htwo:=Ej L.d0 (by have:=L.d1;omega) (dot (vec (aI p q%8+4)) (pt p)) g h1 h2;have hlen:es.length=2:=by have:=congrArg List.length e1;rw[dJ,dJ,htwo]at this;exact this
     obtain⟨x,y,rfl⟩:∃x y,es=[x,y]:=by
      match es,hlen with
      |[x,y],_=>exact⟨x,y,rfl⟩
     obtain⟨X,Y,hXY⟩:∃X Y,iM (aI p q%8) (dot (vec (aI p q%8+4)) (pt p)) l 0 l=[X,Y]:=by
      match iM (aI p q%8) (dot (vec (aI p q%8+4)) (pt p)) l 0 l,htwo with
      |[x,y],_=>exact⟨x,y,rfl⟩
     rw[hXY]at e1;simp only[cR,kJ,List.cons.injEq,and_true]at e1;have nx:=e2 x (by simp);have ny:=e2 y (by simp);unfold OkM at nx ny;rw[e1.1]at nx;rw[e1.2]at ny;obtain⟨A1,A2,A3,k1,k2⟩:=jq (kk:=kk) (d:=aI p q) (N:=134217728) hkk (by omega) hr.1 (by omega) rp bp (by omega) (by omega);obtain⟨B1,B2,B3,k3,k4⟩:=jq (kk:=kk) (d:=aI p q) (N:=134217728) hkk (by omega) hr.1 (by omega) rq bq (by omega) (by omega);have nA:Nq (sc (dot (vec (aI p q)) (pt p))) A1 A2 A3:=⟨k2.lift,(fK (dx _) bp).sc.mono (by omega)⟩;have nB:Nq (sc (dot (vec (aI p q)) (pt q))) B1 B2 B3:=⟨k4.lift,(fK (dx _) bq).sc.mono (by omega)⟩;obtain⟨c1,c2,c3,l1,l2⟩:=KR (kk:=kk) hkk nx ny;obtain⟨d1,d2,d3,l3,l4⟩:=Rz (kk:=kk) hkk nx ny;obtain⟨f1,f2,f3,l5,l6⟩:=Rz (kk:=kk) hkk l2 nA;obtain⟨g1,g2,g3,l7,l8⟩:=KR (kk:=kk) hkk l4 nB;obtain⟨w1,w2,w3,l9,l10⟩:=fG (kk:=kk) hkk (by omega) l8.r l6.r (l8.b.mono (by omega)) (l6.b.mono (by omega));have l11:=Rp.lx (kk:=kk) l10 (M:=2199023255552) (by omega) (by omega) (l8.b.sub l6.b)
     have e5:=e4 kk [] (ρ:=((Bool×Unit)×Unit)) (λx100:((Unit×Unit×Int×Unit×Unit)×((Int×Int×Int×Int×Int×Int×Unit)×(Int×Int×Int×Int×Int×Int×Unit)×(List N3)×Unit))=>
         bif decide (0≤0)&&decide (0<(x100.2.2.2.1.length:Int))then
          (x100.2.2.2.1[0]?).bind λx101=>
          bif decide (0≤1)&&decide (1<(x100.2.2.2.1.length:Int))then
           (x100.2.2.2.1[1]?).bind λx102=>
           (f182 kk x101.1 x101.2.1 x101.2.2 x102.1 x102.2.1 x102.2.2).bind λx103=>
           (f181 kk x100.1.2.2.1 x100.2.1.1 x100.2.1.2.1 x100.2.1.2.2.1 x100.2.1.2.2.2.1 x100.2.1.2.2.2.2.1 x100.2.1.2.2.2.2.2.1).bind λx104=>
           (f180 kk x103.1.1.1 x103.1.1.2.1 x103.1.1.2.2.1 x104.1.1.1 x104.1.1.2.1 x104.1.1.2.2.1).bind λx105=>
           bif decide (0≤0)&&decide (0<(x100.2.2.2.1.length:Int))then
            (x100.2.2.2.1[0]?).bind λx106=>
            bif decide (0≤1)&&decide (1<(x100.2.2.2.1.length:Int))then
             (x100.2.2.2.1[1]?).bind λx107=>
             (f180 kk x106.1 x106.2.1 x106.2.2 x107.1 x107.2.1 x107.2.2).bind λx108=>
             (f181 kk x100.1.2.2.1 x100.2.2.1.1 x100.2.2.1.2.1 x100.2.2.1.2.2.1 x100.2.2.1.2.2.2.1 x100.2.2.1.2.2.2.2.1 x100.2.2.1.2.2.2.2.2.1).bind λx109=>
             (f182 kk x108.1.1.1 x108.1.1.2.1 x108.1.1.2.2.1 x109.1.1.1 x109.1.1.2.1 x109.1.1.2.2.1).bind λx110=>
             (f184 kk x110.1.1.1 x110.1.1.2.1 x110.1.1.2.2.1 x105.1.1.1 x105.1.1.2.1 x105.1.1.2.2.1).bind λx111=>
             (f183 kk x111.1.1.1 x111.1.1.2.1 x111.1.1.2.2.1).bind λx112=>
             some (((decide (x112.1.1>0)),()),())
            else
             none
           else
            none
          else
           none
         else
          none,
      ()) (by omega) (by simp)
     rw[show((0:Nat):Int)=0 from rfl,List.nil_append]at e5;rw[e5];simp only[ax,br,List.getElem?_cons_zero,List.getElem?_cons_succ,aa];rw[l1];simp only[aa];rw[k1];simp only[aa];rw[l5];simp only[aa];rw[l3];simp only[aa];rw[k3];simp only[aa];rw[l7];simp only[aa];rw[l9];simp only[aa];rw[l11,hXY];rfl
theorem LG :∀{p:PtG}{L:List PtG},dH (some p) L=true->∀q∈L,dC (pt p) (pt q)<0
 |_,[],_,q,hq=>by cases hq
 |p,a::r,h,q,hq=>by
  simp only[dH,ltO,aH,bT]at h;rcases aG.1 hq with rfl|hq
  . exact h.2.1
  . exact Ay (by have:=h.2.1;omega) (LG h.2.2 q hq)
theorem Ba :∀{o:Option PtG}{L:List PtG},dH o L=true->L.Nodup
 |_,[],_=>.nil
 |o,a::r,h=>by simp only[dH,aH]at h;refine fC.2 ⟨λhm=> ?_,Ba h.2.2⟩;have:=LG h.2.2 a hm;rw[wI]at this;omega
theorem Sf {L:List PtG}(hn:L.Nodup){i j:Int}(i0:0≤i)(i1:i<L.length)(j0:0≤j)(j1:j<L.length)(h:atP L i=atP L j):i=j:=by obtain⟨x,e,e2⟩:=m8 i0 i1;obtain⟨y,f,f2⟩:=m8 j0 j1;unfold atP at h;rw[e,f]at h;have h':x=y:=h;subst h';obtain⟨li,ei⟩:=gq.1 e2;obtain⟨lj,ej⟩:=gq.1 f2;have:=(List.getElem_inj hn).1 (ei.trans ej.symm);omega
theorem AS {L:List PtG}(hn:L.Nodup):∀{W:List Int},W.Nodup->(∀w∈W,0≤w/\w<L.length)->(W.map (atP L)).Nodup
 |[],_,_=>.nil
 |w::r,h,hr=>by obtain⟨n1,n2⟩:=fC.1 h;rw[cR];refine fC.2 ⟨λhm=> ?_,AS hn n2 λw hw=>hr w (bk _ hw)⟩;obtain⟨v,hv,e⟩:=eZ.1 hm;have a:=hr w (bQ ..);have b:=hr v (bk _ hv);exact n1 (by rw[Sf hn a.1 a.2 b.1 b.2 e.symm];exact hv)
theorem AX {α:Type}{l:List α}(h:l.Nodup):l.reverse.Nodup:=List.pairwise_reverse.2 (h.imp λh=>h.symm)
def uT (W:List Int):List Int:=W.take 1++(W.drop 1).reverse
theorem Kh {kk:Nat}(W:List Int)(hlen:W.length≤40):∀(n j:Nat)(acc:List Int){ρ:Type}(nx:((((Unit×Unit)×((List Int)×Unit))->Option ρ)×Unit)),n<W.length->n+1≤j->acc.length+n≤1000->
    rM kk j W (n:Int) acc nx=nx.1 (((),()),(acc++((W.drop 1).take n).reverse,())):=by
 intro n
 induction n with
 |zero=>
  intro j acc ρ nx hn hj ha;obtain⟨j,rfl⟩:=aA hj;unfold rM;rw[show decide (((0:Nat):Int)>0)=false from rfl];simp
 |succ n ih=>
  intro j acc ρ nx hn hj ha;obtain⟨j,rfl⟩:=aA hj;unfold rM;rw[ai (p:=((n+1:Nat):Int)>0) (by omega),cO,aL hn];simp only[ab,aa];rw[ai (p:=(acc.length+[W[n+1]].length)*8≤roomy) (by simp only[ax,br,roomy];omega),aw (by omega) (by omega),ab,show((n+1:Nat):Int)-1=(n:Int) by omega,ih j _ nx (by omega) (by omega) (by rw[aV];simp;omega)]
  congr 3
  rw[bL]
  congr 1
  rw[List.take_add_one,nz,mL 1 n,aL hn];simp
theorem Si {kk:Nat}(W:List Int)(hne:W≠[])(h:W.length+1≤kk)(hlen:W.length≤40):f76 kk W=some (((),()),(uT W,())):=by
 obtain⟨w,r,rfl⟩:∃w r,W=w::r:=by cases W with
  |nil=>exact absurd rfl hne
  |cons w r=>exact⟨w,r,rfl⟩
 have:=Kh (kk:=kk) (w::r) hlen r.length kk [w] (ρ:=((Unit×Unit)×((List Int)×Unit))) (λx8:((Unit×Unit)×((List Int)×Unit))=>some (((),()),(x8.2.1,())),()) (by simp) (by simp only[ax]at h;omega) (by simp only[ax,br]at hlen⊢;omega);unfold f76;rw[show aq (w::r) 0=some w from rfl,aw (by omega) (by omega),show(((w::r).length:Nat):Int)-1=(r.length:Int) by rw[ax];omega];simp only[aa];rw[this];simp[uT]
def nO (l:List PtG)(L:List PtG):List CrG->Bool
 |[]=>true
 |c::r=>(c.2.2==1||(!decide (nP l (atP L c.1) 1 0 l<0)&&(!decide (nP l (atP L c.2.1) 1 0 l<0)&&wM l (atP L c.1) (atP L c.2.1))))&&nO l L r
theorem Ez {kk:Nat}(hkk:400≤kk){L:List PtG}{C:List CrG}(gp:cT L C){l:List PtG}(g:Poly l):∀(r:List CrG)(i j:Nat){ρ:Type}(nx:(((Unit×Unit)->Option ρ)×(((Bool×Unit)×Unit)->Option ρ)×Unit)),C.drop i=r->r.length+1≤j->
    lb kk j C (C.length:Int) (i:Int) L C l nx=bif nO l L r then nx.1 ((),())else nx.2.1 ((false,()),())
 |[],i,j,ρ,nx,h,hj=>by
  obtain⟨j,rfl⟩:=aA hj;unfold lb;rw[aP h];rfl
 |c::r,i,j,ρ,nx,h,hj=>by
  obtain⟨j,rfl⟩:=aA hj;have hi:=aK h;have hnC:=gp.nC;obtain⟨p,q,e1,e2,o1,o2,_,a1,a2,_⟩:=gp.get (aX (aO h));have ih:=Ez hkk gp g r (i+1) j nx (an h) (by simp only[ax]at hj;omega);unfold lb f63 f64;rw[aJ h,aE h,ak (by omega),ih];simp only[ab,aa];rw[e1,e2];simp only[aa];rw[AM hkk g o1,AM hkk g o2,H0 hkk g o1 o2];simp only[aa,nO];rw[a1,a2]
  cases c.2.2==1 with
  |true=>rfl
  |false=>
   simp only[ac,hY]
   cases decide (nP l p 1 0 l<0)with
   |true=>rfl
   |false=>
    simp only[ac,dK,bj]
    cases decide (nP l q 1 0 l<0)with
    |true=>rfl
    |false=>simp only[ac,dK,bj];cases wM l p q<;>rfl
theorem AL {kk:Nat}(hkk:400≤kk){L:List PtG}{C:List CrG}(gp:cT L C){l:List PtG}(g:Poly l):∀(r:List CrG)(i j:Nat){ρ:Type}(nx:(((Unit×Unit)->Option ρ)×(((Bool×Unit)×Unit)->Option ρ)×Unit)),C.drop i=r->r.length+1≤j->
    pu kk j (L,C) (C.map (iK L)) (i:Int) l (gN l) nx=bif nO l L r then nx.1 ((),())else nx.2.1 ((false,()),())
 |[],i,j,ρ,nx,h,hj=>by
  obtain⟨j,rfl⟩:=aA hj;unfold pu;rw[dJ,aP h];rfl
 |c::r,i,j,ρ,nx,h,hj=>by
  obtain⟨j,rfl⟩:=aA hj;have hi:=aK h;have hnC:=gp.nC;obtain⟨p,q,e1,e2,o1,o2,_,a1,a2,_⟩:=gp.get (aX (aO h));have ih:=AL hkk gp g r (i+1) j nx (an h) (by simp only[ax]at hj;omega);have hs:aq (C.map (iK L)) (i:Int)=some (iK L c):=w8 (aO h);unfold pu;dsimp only;rw[dJ,aJ h,aE h,ak (by omega),ih,hs];simp only[ab,aa,iK];rw[a1,a2,yc hkk g o1,yc hkk g o2,FA hkk g o1 o2];simp only[aa,nO];rw[a1,a2]
  cases c.2.2==1 with
  |true=>rfl
  |false=>
   simp only[ac,hY]
   cases decide (nP l p 1 0 l<0)with
   |true=>rfl
   |false=>
    simp only[ac,dK,bj]
    cases decide (nP l q 1 0 l<0)with
    |true=>rfl
    |false=>simp only[ac,dK,bj];cases wM l p q<;>rfl
theorem EA {kk:Nat}(hkk:400≤kk){L:List PtG}{C:List CrG}(gp:cT L C){l:List PtG}(g:Poly l):f78 kk (L,C) (C.map (iK L)) l=some ((nO l L C,()),()):=by
 have hn:=g.n16;have hnC:=gp.nC;have hcv:=g.cv;unfold kX at hcv;rw[aH]at hcv;unfold f78;rw[HM l (by omega) (by omega)];simp only[aa];rw[E9 hkk l g.ok (by omega),hcv.1];simp only[ab,aa]
 have:=AL hkk gp g C 0 kk (ρ:=((Bool×Unit)×Unit)) (λx21:(Unit×Unit)=>
     some ((true,()),()),
  λx22:((Bool×Unit)×Unit)=>some ((x22.1.1,()),()),
  ()) rfl (by omega)
 rw[show((0:Nat):Int)=0 from rfl]at this;rw[this];cases nO l L C<;>rfl
def lp (L:List PtG)(R:List Int):List PtG:=R.reverse.map (atP L)
def cz (L:List PtG)(R:List Int):List PtG:=nK (lp L R) 0 (lp L R)
def roundOf (L:List PtG)(R:List Int):List Int:=if fm (bD (cz L R))=true then R.reverse else uT R.reverse
structure Valid (L:List PtG)(C:List CrG)(R:List Int):Prop where
 g:cT L C
 pts:dH none L=true
 crs:dq L.length none C=true
 rnd:Rnd L.length C R
 pap:jd (cz L R)=true
 plan:eM L [] C=true
 conn:∀i:Int,0≤i->i<L.length->Rch C i
 ins:nO (fh (cz L R)) L C=true
theorem Valid.brd {L:List PtG}{C:List CrG}{R:List Int}(v:Valid L C R):Brd L.length C:=Kn v.crs
theorem HG {n:Nat}{C:List CrG}{R:List Int}(h:Rnd n C R):(∀w∈R.reverse,0≤w/\w<n)/\R.reverse.Nodup/\R.reverse.length≤n/\R.reverse≠[]:=
 ⟨λw hw=>h.gw.rg w (pU.1 hw),AX h.gw.nd,by rw[eU];exact h.gw.len,λe=>by
  have:=List.reverse_eq_nil_iff.1 e;have h2:=h.pth;rw[this]at h2
  exact h2.elim⟩
theorem Kw {L:List PtG}{C:List CrG}{R:List Int}(hL:∀p∈L,okP p=true)(hn:L.Nodup)(hl:L.length≤40)(h:Rnd L.length C R):(∀p∈lp L R,okP p=true)/\(lp L R).length≤40/\(∀p∈cz L R,okP p=true)/\(cz L R).length≤40/\(cz L R).Nodup:=by
 obtain⟨r1,r2,r3,r4⟩:=HG h;have h1:∀p∈lp L R,okP p=true:=λp hp=>by obtain⟨w,hw,rfl⟩:=eZ.1 hp;exact hL _ (gh (r1 w hw).1 (r1 w hw).2).2
 have h2:(lp L R).length≤40:=by unfold lp;rw[dJ];omega
 have sub:(cz L R).Sublist (lp L R):=wK (lp L R) 0 (lp L R);exact⟨h1,h2,λp hp=>h1 p (sub.subset hp),by have:=sub.length_le;omega,sub.nodup (AS hn r2 r1)⟩
theorem yr {K:List PtG}(hK:∀p∈K,okP p=true)(h:jd K=true):Poly (fh K):=by
 unfold jd at h;unfold fh;by_cases q:fm (bD K)=true
 . rw[ah q];exact HB (λp hp=>hK p (np.1 hp)) q
 . rw[ae q];rw[eB]at h;exact HB (λp hp=>hK p (pU.1 (np.1 hp))) (h.resolve_left q)
theorem Fp {kk:Nat}(hkk:400≤kk)(L:List PtG)(C:List CrG)(hl:L.length+1≤kk)(hc:C.length+1≤kk)(hl2:L.length<4611686018427387904)(hc2:C.length<4611686018427387904):
    (f36 kk L C=some ((false,()),())/\∃a b,f40 kk (L,C)=some (((),(),false,()),(a,b,())))\/
    ∃R,Valid L C R/\f36 kk L C=some ((true,()),())/\f40 kk (L,C)=some (((),(),true,()),(fh (cz L R),roundOf L R,())):=by
 unfold f36 f40;rw[CB hkk L C hl hl2,Ng hkk L C];simp only[aa]
 cases hp:dH none L with
 |false=>left;refine⟨rfl,[],[],?_⟩;simp
 |true=>
  by_cases h40:L.length≤40
  . have hL:=yt hp;rw[ai h40];simp only[dL,bi,ac,bj];rw[BF hkk L C hL h40 hc hc2];simp only[aa]
    cases hcr:dq L.length none C with
    |false=>left;refine⟨rfl,[],[],?_⟩;simp
    |true=>
     by_cases h70:C.length≤70
     . rw[ai h70];have hrg:=tR hcr;simp only[dL,oZ,bj,bi,ac];rw[TB hkk L C hL hrg h70]
       cases hd:jo L C with
       |false=>left;exact⟨rfl,[],[],rfl⟩
       |true=>
        have gp:cT L C:=⟨hL,hrg,λc hc=>by
         unfold jo at hd;have:=dj.1 hd c hc
         simpa using this,h40,h70⟩
        have brd:=Kn hcr;simp only[ab,aa,bi,ac];rw[FG hkk gp];simp only[aa];rcases O2 (kk:=kk) hkk L brd h40 h70 with⟨l,l',b1,b2⟩|⟨R,b1,b2,rnd⟩
        ·
         left;rw[b2];refine⟨?_,[],[],rfl⟩
         cases eM L [] C with
         |false=>rfl
         |true=>
          simp only[bi,ac]
          have hcon:∃b,f61 kk L C=some ((b,()),()):=by
           by_cases hne:L=[]
           . subst hne;exact⟨true,rfl⟩
           . obtain⟨b,h1,_⟩:=tO hkk gp hne;exact⟨b,h1⟩
          obtain⟨b,hb⟩:=hcon;rw[hb]
          cases b with
          |false=>rfl
          |true=>unfold f62;rw[b1];rfl
        . obtain⟨r1,r2,r3,r4⟩:=HG rnd;have hne:L≠[]:=λe=>by subst e;have:R.reverse=[]:=lA.1 (Nat.le_zero.1 r3);exact r4 this
          obtain⟨b,k1,k2⟩:=tO hkk gp hne;obtain⟨b',k3,k4⟩:=Jz hkk gp hne;have hbb:b=b':=Bool.eq_iff_iff.2 (k2.trans k4.symm);subst hbb;rw[b2,Jx hkk gp];simp only[aa,bi,ac]
          cases hpl:eM L [] C with
          |false=>left;exact⟨rfl,[],[],rfl⟩
          |true=>
           simp only[bi,ac];rw[k1,k3];simp only[aa]
           cases hb:b with
           |false=>left;exact⟨rfl,[],[],rfl⟩
           |true=>
            simp only[bi,ac];obtain⟨c1,c2,c3,c4,c5⟩:=Kw hL (Ba hp) h40 rnd;have hpo:=ES (kk:=kk) hkk L C R.reverse r1 (by omega);have hst:=F6 (kk:=kk) hkk (lp L R) c1 c2;obtain⟨P,n1,n2⟩:=K5 (kk:=kk) hkk (cz L R) c3 c4;have hco:=HX (kk:=kk) hkk L C hL R.reverse r1 (by omega);have c3r:∀p∈(cz L R).reverse,okP p=true:=λp hp=>c3 p (pU.1 hp)
            have c4r:(cz L R).reverse.length≤40:=by rw[eU];exact c4
            have t1:=Fk (kk:=kk) hkk (cz L R) c3 c4;have t2:=ET (kk:=kk) hkk (cz L R) c3 c5 c4;have t3:=FQ (kk:=kk) (cz L R) (by omega) (by omega);have t4:=Fk (kk:=kk) hkk (cz L R).reverse c3r c4r;have t5:=ET (kk:=kk) hkk (cz L R).reverse c3r (AX c5) c4r;have t6:=Si (kk:=kk) R.reverse r4 (by omega) (by omega);unfold f62;rw[b1];simp only[aa,bi,ac];rw[hpo];simp only[aa];rw[show f115 kk (R.reverse.map (atP L))=some (((),()),(cz L R,()))from hst];simp only[aa];rw[n1,show f73 kk (L,C) R.reverse=some (((),()),(cz L R,()))from hco];simp only[aa];rw[t1];simp only[aa];rw[t2];simp only[aa]
            have fin:∀(paper:List PtG)(round:List Int),paper=fh (cz L R)->round=roundOf L R->∀b,fm paper=b->f75 kk paper=some ((b,()),())->b=jd (cz L R)->
                ∀{ρ:Type}(nx:((((Unit×Unit×Bool×Unit)×((List PtG)×(List Int)×Unit))->Option ρ)×Unit)),rG kk (L,C) (C.map (iK L)) round paper nx=bif b&&nO paper L C then nx.1 (((),(),true,()),(paper,round,()))else nx.1 (((),(),false,()),([],[],())):=by
             intro paper round e1 e2 b hb hS hbp ρ nx;unfold rG;rw[hS];simp only[aa]
             cases b with
             |false=>rfl
             |true=>
              simp only[bi,ac,bj];have poly:Poly paper:=by rw[e1];exact yr c3 hbp.symm
              rw[EA hkk gp poly];simp only[aa];cases nO paper L C<;>rfl
            have both:∀(X:Option ((Unit×Unit×Bool×Unit)×((List PtG)×(List Int)×Unit))),X=(bif jd (cz L R)&&nO (fh (cz L R)) L C then some (((),(),true,()),(fh (cz L R),roundOf L R,()))else some (((),(),false,()),([],[],())))->
                ((bif !jd (cz L R)then some ((false,()),())else lb kk kk C (C.length:Int) 0 L C P (λx33:(Unit×Unit)=>some ((true,()),()),λx34:((Bool×Unit)×Unit)=>some ((x34.1.1,()),()),()))=some ((false,()),())/\∃a b,X=some (((),(),false,()),(a,b,())))\/
                ∃R',Valid L C R'/\(bif !jd (cz L R)then some ((false,()),())else lb kk kk C (C.length:Int) 0 L C P (λx33:(Unit×Unit)=>some ((true,()),()),λx34:((Bool×Unit)×Unit)=>some ((x34.1.1,()),()),()))=some ((true,()),())/\X=some (((),(),true,()),(fh (cz L R'),roundOf L R',())):=by
             intro X hX
             cases hpb:jd (cz L R)with
             |false=>left;rw[hX,hpb];exact⟨rfl,[],[],rfl⟩
             |true=>
              have poly:=yr c3 hpb;rw[n2 hpb];have hil:=Ez (kk:=kk) hkk gp poly C 0 kk (ρ:=((Bool×Unit)×Unit)) (λx33:(Unit×Unit)=>some ((true,()),()),λx34:((Bool×Unit)×Unit)=>some ((x34.1.1,()),()),()) rfl (by omega);rw[show((0:Nat):Int)=0 from rfl]at hil;rw[hX,hpb,bi,ac,hil]
              cases hin:nO (fh (cz L R)) L C with
              |false=>left;exact⟨rfl,[],[],rfl⟩
              |true=>right;exact⟨R,⟨gp,hp,hcr,rnd,hpb,hpl,k2.1 hb,hin⟩,rfl,rfl⟩
            refine both _ ?_
            cases hpt:fm (bD (cz L R))with
            |true=>
             simp only[bi,ac];have e1:bD (cz L R)=fh (cz L R):=by unfold fh;rw[ah hpt]
             have e2:R.reverse=roundOf L R:=by unfold roundOf;rw[ah hpt]
             have e3:true=jd (cz L R):=by unfold jd;rw[hpt];rfl
             rw[hpt]at t2;rw[fin _ _ e1 e2 true hpt t2 e3,e1,e2,<-e3]
            |false=>
             simp only[dK,ab];rw[t6];simp only[aa];rw[t3];simp only[aa];rw[t4];simp only[aa];have e1:bD (cz L R).reverse=fh (cz L R):=by unfold fh;rw[ae (by rw[hpt];simp)]
             have e2:uT R.reverse=roundOf L R:=by unfold roundOf;rw[ae (by rw[hpt];simp)]
             have e3:fm (bD (cz L R).reverse)=jd (cz L R):=by unfold jd;rw[hpt,hY]
             rw[fin _ _ e1 e2 _ rfl t5 e3,e3,e1,e2]
     . left;rw[al h70];refine⟨?_,[],[],?_⟩
       . simp
       . simp
  . left;rw[al h40];exact⟨by simp,[],[],by simp⟩
open R1 Z2 Go.Sort
abbrev qz :=(List PtG)×(List CrG)
abbrev StG :=((Unit×qz)×Int)
structure Cm (kk:Nat)(P:qz)(t:Int)(lt:Int->Int->Bool)(V:Int->Prop):Prop where
 h:∀x y,V x->V y->∃c,f92 kk x y P t=some ((c,()),())/\decide (c<0)=lt x y
def AV (V:Int->Prop)(d:Array Int):Prop:=∀i,i<d.size->V d[i]!
theorem AV.swp {V:Int->Prop}{d:Array Int}(h:AV V d){i j:Nat}(hi:i<d.size)(hj:j<d.size):AV V (swp d i j):=λk hk=>by
 rw[swp_size]at hk;rw[swp_get d hi hj k];split
 . exact h _ hi
 . split
   . exact h _ hj
   . exact h _ hk
theorem rdA {ρ:Type}{d:Array Int}{i:Nat}(h:i<d.size)(f:Int->Option ρ):(bif decide (0≤(i:Int))&&decide ((i:Int)<(d.toList.length:Int))then(d.toList[((i:Int)).toNat]?).bind f else none)=f d[i]! :=by
 rw[bnd (by simpa using h),bK,ab];have:d.toList[i]? =some d[i]! :=by rw[uQ,getElem!_pos d i h,vF h]
 rw[this];rfl
theorem Ry (d:Array Int)(i:Nat)(x:Int):d.toList.set ((i:Int)).toNat x=(d.setIfInBounds i x).toList:=by rw[bK,Array.toList_setIfInBounds]
theorem swA {ρ:Type}{d:Array Int}{i j:Nat}(hi:i<d.size)(hj:j<d.size)(f:List Int->Option ρ):
    (bif decide (0≤(j:Int))&&decide ((j:Int)<(d.toList.length:Int))then(d.toList[((j:Int)).toNat]?).bind λx=>bif decide (0≤(i:Int))&&decide ((i:Int)<(d.toList.length:Int))then(d.toList[((i:Int)).toNat]?).bind λy=>bif decide (0≤(i:Int))&&decide ((i:Int)<(d.toList.length:Int))then(d.toList[((i:Int)).toNat]?).bind λ_=>bif decide (0≤(j:Int))&&decide ((j:Int)<((d.toList.set ((i:Int)).toNat x).length:Int))then((d.toList.set ((i:Int)).toNat x)[((j:Int)).toNat]?).bind λ_=>f ((d.toList.set ((i:Int)).toNat x).set ((j:Int)).toNat y)else none else none else none else none)=f (swp d i j).toList:=by
 rw[rdA hj,rdA hi,rdA hi];have h:j<(d.setIfInBounds i d[j]!).size:=by simpa using hj
 rw[Ry,rdA h,Ry];rfl
theorem wrp {i:Nat}(h:i+1<4611686018427387904):wr .i64 (((i+1:Nat):Int)-1)=(i:Int):=by rw[aw (by omega) (by omega)];omega
theorem wrs {a b:Nat}(h:b≤a)(h2:a<4611686018427387904):wr .i64 ((a:Int)-(b:Int))=((a-b:Nat):Int):=by rw[aw (by omega) (by omega)];omega
theorem wra {a b:Nat}(h:a+b<4611686018427387904):wr .i64 ((a:Int)+(b:Int))=((a+b:Nat):Int):=by rw[aw (by omega) (by omega)];omega
section
variable {kk : Nat} {P : qz} {t : Int} {lt : Int → Int → Bool} {V : Int → Prop}
theorem nQ (a:Nat):∀(m:Nat)(d:Array Int),(insInner lt a m d).size=d.size
 |0,d=>rfl
 |m+1,d=>by
  unfold insInner;split
  . rw[nQ a m,swp_size]
  . rfl
theorem vV (a:Nat):∀(m:Nat)(d:Array Int),m<d.size->AV V d->AV V (insInner lt a m d)
 |0,d,_,h=>h
 |m+1,d,hm,h=>by
  unfold insInner;split
  . exact vV a m _ (by rw[swp_size];omega) (h.swp hm (by omega))
  . exact h
theorem VU (cm:Cm kk P t lt V)(a:Nat)(b i0:Int):∀(m:Nat)(d:Array Int)(j:Nat){ρ:Type}(nx:((((Unit×Int×Int×StG×Int×Unit)×((List Int)×Unit))->Option ρ)×Unit)),m<d.size->d.size≤150->AV V d->m+1≤j->
    me kk j (a:Int) b P t i0 (m:Int) d.toList nx=nx.1 (((),(a:Int),b,(((),P),t),i0,()),((insInner lt a m d).toList,()))
 |0,d,j,ρ,nx,hm,hd,hV,hj=>by
  obtain⟨j,rfl⟩:=aA hj;unfold me;rw[al (p:=((0:Nat):Int)>(a:Int)) (by omega)];rfl
 |m+1,d,j,ρ,nx,hm,hd,hV,hj=>by
  obtain⟨j,rfl⟩:=aA hj;unfold me insInner;by_cases q:m+1>a
  . rw[ai (p:=((m+1:Nat):Int)>(a:Int)) (by omega),wrp (by omega),ab,rdA hm,rdA (show m<d.size by omega)];obtain⟨c,c1,c2⟩:=cm.h _ _ (hV _ hm) (hV m (by omega));rw[c1];simp only[aa];rw[c2,ai q,bj]
    cases e:lt d[m+1]! d[m]! with
    |true=>
     rw[ab,swA hm (show m<d.size by omega) (λl=>me kk j (a:Int) b P t i0 (m:Int) l nx),ah rfl];exact VU cm a b i0 m _ j nx (by rw[swp_size];omega) (by rw[swp_size];exact hd) (hV.swp hm (by omega)) (by omega)
    |false=>rfl
  . rw[al (p:=((m+1:Nat):Int)>(a:Int)) (by omega),al q];rfl
theorem aaz (cm:Cm kk P t lt V)(hkk:400≤kk)(a b:Nat):∀(n i:Nat)(d:Array Int)(j:Nat){ρ:Type}(nx:(((Unit×((List Int)×Unit))->Option ρ)×Unit)),b-i=n->b≤d.size->d.size≤150->AV V d->n+1≤j->
    oE kk j (a:Int) (b:Int) P t (i:Int) d.toList nx=nx.1 ((),((insOuter lt a b i d).toList,())):=by
 intro n
 induction n with
 |zero=>
  intro i d j ρ nx hn hb hd hV hj;obtain⟨j,rfl⟩:=aA hj;unfold oE insOuter;rw[eJ (by omega),ae (by omega)];rfl
 |succ n ih=>intro i d j ρ nx hn hb hd hV hj;obtain⟨j,rfl⟩:=aA hj;unfold oE insOuter;rw[dlt (show(i:Int)<(b:Int) by omega),ah (by omega),ab,VU cm a _ _ i d kk _ (by omega) hd hV (by omega)];dsimp only;rw[ak (by omega)];exact ih (i+1) _ j nx (by omega) (by rw[nQ];exact hb) (by rw[nQ];exact hd) (vV a i d (by omega) hV) (by omega)
theorem VV (cm:Cm kk P t lt V)(hkk:400≤kk)(a b:Nat)(d:Array Int)(hb:b≤d.size)(hd:d.size≤150)(ha:a≤d.size)(hV:AV V d):f191 kk (a:Int) (b:Int) P t d.toList=some ((),((insertionSort lt d a b).toList,())):=by unfold f191 insertionSort;rw[ak (by omega),aaz cm hkk a b (b-(a+1)) (a+1) d kk _ rfl hb hd hV (by omega)]
theorem p3 (cm:Cm kk P t lt V)(a:Nat)(d:Array Int)(ha:a<d.size)(hd:d.size≤150)(hV:AV V d)(J:Nat)(hJ:J<d.size):∀(n i j:Nat){ρ:Type}(nx:((((Unit×Int×StG×Int×Int×Unit)×((List Int)×Unit))->Option ρ)×Unit)),J+1-i=n->n+1≤j->
    ml kk j (a:Int) P t (i:Int) (J:Int) d.toList nx=nx.1 (((),(a:Int),(((),P),t),((scanUp (λx=>lt x d[a]!) d J i:Nat):Int),(J:Int),()),(d.toList,())):=by
 intro n
 induction n with
 |zero=>
  intro i j ρ nx hn hj;obtain⟨j,rfl⟩:=aA hj;unfold ml scanUp;rw[lK (by omega),al (p:=i≤J) (by omega)];rfl
 |succ n ih=>
  intro i j ρ nx hn hj;obtain⟨j,rfl⟩:=aA hj;have hi:i<d.size:=by omega
  obtain⟨c,c1,c2⟩:=cm.h _ _ (hV i hi) (hV a ha);unfold ml scanUp;rw[dle (show(i:Int)≤(J:Int) by omega),ai (p:=i≤J) (by omega),ab,rdA hi,rdA ha,c1];simp only[aa,bj];rw[c2,ak (by omega)]
  cases e:lt d[i]! d[a]! with
  |true=>simp only[ab,fI];exact ih (i+1) j nx (by omega) (by omega)
  |false=>rfl
theorem p5 (cm:Cm kk P t lt V)(a:Nat)(d:Array Int)(ha:a<d.size)(hd:d.size≤150)(hV:AV V d)(i:Nat)(hi:1≤i):∀(J j:Nat){ρ:Type}(nx:((((Unit×Int×StG×Int×Int×Unit)×((List Int)×Unit))->Option ρ)×Unit)),J<d.size->J+1≤j->
    oK kk j (a:Int) P t (i:Int) (J:Int) d.toList nx=nx.1 (((),(a:Int),(((),P),t),(i:Int),((scanDown (λx=> !lt x d[a]!) d i J:Nat):Int),()),(d.toList,()))
 |0,j,ρ,nx,hJ,hj=>by
  obtain⟨j,rfl⟩:=aA hj;unfold oK;rw[lK (by omega)];rfl
 |J+1,j,ρ,nx,hJ,hj=>by
  obtain⟨j,rfl⟩:=aA hj;unfold oK scanDown;by_cases q:i≤J+1
  . obtain⟨c,c1,c2⟩:=cm.h _ _ (hV (J+1) hJ) (hV a ha);rw[dle (show(i:Int)≤((J+1:Nat):Int) by omega),ai q,ab,rdA hJ,rdA ha,c1];simp only[aa,bj];rw[c2,wrp (by omega)]
    cases e:lt d[J+1]! d[a]! with
    |false=>simp only[dK,  ab,fI];exact p5 cm a d ha hd hV i hi J j nx (by omega) (by omega)
    |true=>rfl
  . rw[lK (by omega),al q];rfl
theorem p13 (cm:Cm kk P t lt V)(a:Nat)(d:Array Int)(ha:a<d.size)(hd:d.size≤150)(hV:AV V d)(J:Nat)(hJ:J<d.size):∀(n i j:Nat){ρ:Type}(nx:((((Unit×Int×StG×Int×Int×Unit)×((List Int)×Unit))->Option ρ)×Unit)),J+1-i=n->n+1≤j->
    mi kk j (a:Int) P t (i:Int) (J:Int) d.toList nx=nx.1 (((),(a:Int),(((),P),t),((scanUp (λx=>lt x d[a]!) d J i:Nat):Int),(J:Int),()),(d.toList,())):=by
 intro n
 induction n with
 |zero=>
  intro i j ρ nx hn hj;obtain⟨j,rfl⟩:=aA hj;unfold mi scanUp;rw[lK (by omega),al (p:=i≤J) (by omega)];rfl
 |succ n ih=>
  intro i j ρ nx hn hj;obtain⟨j,rfl⟩:=aA hj;have hi:i<d.size:=by omega
  obtain⟨c,c1,c2⟩:=cm.h _ _ (hV i hi) (hV a ha);unfold mi scanUp;rw[dle (show(i:Int)≤(J:Int) by omega),ai (p:=i≤J) (by omega),ab,rdA hi,rdA ha,c1];simp only[aa,bj];rw[c2,ak (by omega)]
  cases e:lt d[i]! d[a]! with
  |true=>simp only[ab,fI];exact ih (i+1) j nx (by omega) (by omega)
  |false=>rfl
theorem p15 (cm:Cm kk P t lt V)(a:Nat)(d:Array Int)(ha:a<d.size)(hd:d.size≤150)(hV:AV V d)(i:Nat)(hi:1≤i):∀(J j:Nat){ρ:Type}(nx:((((Unit×Int×StG×Int×Int×Unit)×((List Int)×Unit))->Option ρ)×Unit)),J<d.size->J+1≤j->
    mj kk j (a:Int) P t (i:Int) (J:Int) d.toList nx=nx.1 (((),(a:Int),(((),P),t),(i:Int),((scanDown (λx=> !lt x d[a]!) d i J:Nat):Int),()),(d.toList,()))
 |0,j,ρ,nx,hJ,hj=>by
  obtain⟨j,rfl⟩:=aA hj;unfold mj;rw[lK (by omega)];rfl
 |J+1,j,ρ,nx,hJ,hj=>by
  obtain⟨j,rfl⟩:=aA hj;unfold mj scanDown;by_cases q:i≤J+1
  . obtain⟨c,c1,c2⟩:=cm.h _ _ (hV (J+1) hJ) (hV a ha);rw[dle (show(i:Int)≤((J+1:Nat):Int) by omega),ai q,ab,rdA hJ,rdA ha,c1];simp only[aa,bj];rw[c2,wrp (by omega)]
    cases e:lt d[J+1]! d[a]! with
    |false=>simp only[dK,  ab,fI];exact p15 cm a d ha hd hV i hi J j nx (by omega) (by omega)
    |true=>rfl
  . rw[lK (by omega),al q];rfl
theorem q3 (cm:Cm kk P t lt V)(a:Nat)(d:Array Int)(ha:a<d.size)(hd:d.size≤150)(hV:AV V d)(J:Nat)(hJ:J<d.size):∀(n i j:Nat){ρ:Type}(nx:((((Unit×Int×StG×Int×Int×Unit)×((List Int)×Unit))->Option ρ)×Unit)),J+1-i=n->n+1≤j->
    oI kk j (a:Int) P t (i:Int) (J:Int) d.toList nx=nx.1 (((),(a:Int),(((),P),t),((scanUp (λx=> !lt d[a]! x) d J i:Nat):Int),(J:Int),()),(d.toList,())):=by
 intro n
 induction n with
 |zero=>
  intro i j ρ nx hn hj;obtain⟨j,rfl⟩:=aA hj;unfold oI scanUp;rw[lK (by omega),al (p:=i≤J) (by omega)];rfl
 |succ n ih=>
  intro i j ρ nx hn hj;obtain⟨j,rfl⟩:=aA hj;have hi:i<d.size:=by omega
  obtain⟨c,c1,c2⟩:=cm.h _ _ (hV a ha) (hV i hi);unfold oI scanUp;rw[dle (show(i:Int)≤(J:Int) by omega),ai (p:=i≤J) (by omega),ab,rdA ha,rdA hi,c1];simp only[aa,bj];rw[c2,ak (by omega)]
  cases e:lt d[a]! d[i]! with
  |false=>simp only[dK,  ab,fI];exact ih (i+1) j nx (by omega) (by omega)
  |true=>rfl
theorem q5 (cm:Cm kk P t lt V)(a:Nat)(d:Array Int)(ha:a<d.size)(hd:d.size≤150)(hV:AV V d)(i:Nat)(hi:1≤i):∀(J j:Nat){ρ:Type}(nx:((((Unit×Int×StG×Int×Int×Unit)×((List Int)×Unit))->Option ρ)×Unit)),J<d.size->J+1≤j->
    oJ kk j (a:Int) P t (i:Int) (J:Int) d.toList nx=nx.1 (((),(a:Int),(((),P),t),(i:Int),((scanDown (λx=>lt d[a]! x) d i J:Nat):Int),()),(d.toList,()))
 |0,j,ρ,nx,hJ,hj=>by
  obtain⟨j,rfl⟩:=aA hj;unfold oJ;rw[lK (by omega)];rfl
 |J+1,j,ρ,nx,hJ,hj=>by
  obtain⟨j,rfl⟩:=aA hj;unfold oJ scanDown;by_cases q:i≤J+1
  . obtain⟨c,c1,c2⟩:=cm.h _ _ (hV a ha) (hV (J+1) hJ);rw[dle (show(i:Int)≤((J+1:Nat):Int) by omega),ai q,ab,rdA ha,rdA hJ,c1];simp only[aa,bj];rw[c2,wrp (by omega)]
    cases e:lt d[a]! d[J+1]! with
    |true=>simp only[ab,fI];exact q5 cm a d ha hd hV i hi J j nx (by omega) (by omega)
    |false=>rfl
  . rw[lK (by omega),al q];rfl
end
section
variable {kk : Nat} {P : qz} {t : Int} {lt : Int → Int → Bool} {V : Int → Prop}
theorem wrm {a:Nat}(h:1≤a)(h2:a<4611686018427387904):wr .i64 ((a:Int)-1)=((a-1:Nat):Int):=by rw[aw (by omega) (by omega)];omega
structure Gd (V:Int->Prop)(d d':Array Int):Prop where
 sz:d'.size=d.size
 av:AV V d'
theorem gg {d:Array Int}(h:AV V d){i j:Nat}(hi:i<d.size)(hj:j<d.size):Gd V d (swp d i j):=⟨swp_size d i j,h.swp hi hj⟩
theorem Gd.trans {d d' d'':Array Int}(h:Gd V d d')(h':Gd V d' d''):Gd V d d'':=⟨h'.sz.trans h.sz,h'.av⟩
theorem giA {d:Array Int}{i:Nat}(h:i<d.size):aq d.toList (i:Int)=some d[i]! :=by rw[cO,uQ,getElem!_pos d i h,vF h]
theorem pl (cm:Cm kk P t lt V)(hkk:400≤kk)(a:Nat):∀(n i J:Nat)(d:Array Int)(j:Nat){ρ:Type}(nx:((((Unit×Int×Int×Unit)×((List Int)×Unit))->Option ρ)×Unit)),J+1-i≤n->a<i->i≤J+1->J<d.size->d.size≤150->AV V d->n+1≤j->
    fx kk j (a:Int) P t (i:Int) (J:Int) d.toList nx=nx.1 (((),(a:Int),((partLoop lt a i J d).1:Int),()),((partLoop lt a i J d).2.toList,()))/\Gd V d (partLoop lt a i J d).2/\i≤(partLoop lt a i J d).1+1/\(partLoop lt a i J d).1≤J:=by
 intro n
 induction n with
 |zero=>
  intro i J d j ρ nx hn ha hij hJ hd hV hj;obtain⟨j,rfl⟩:=aA hj;have u1:=scanUp_spec (λx=>lt x d[a]!) d J _ i rfl;have u2:=scanDown_spec (λx=> !lt x d[a]!) d (scanUp (λx=>lt x d[a]!) d J i) J;rw[partLoop_eq];unfold fx;rw[p13 cm a d (by omega) hd hV J hJ _ i kk _ rfl (by omega)];dsimp only;rw[p15 cm a d (by omega) hd hV _ (by omega) J kk _ hJ (by omega)];dsimp only;generalize scanUp (λx=>lt x d[a]!) d J i=i2 at*;generalize scanDown (λx=> !lt x d[a]!) d i2 J=j2 at*;have q:i2>j2:=by omega
  rw[ai (p:=(i2:Int)>(j2:Int)) (by omega),ah q];exact⟨rfl,⟨rfl,hV⟩,by first|omega|(dsimp only;omega),by first|omega|(dsimp only;omega)⟩
 |succ n ih=>
  intro i J d j ρ nx hn ha hij hJ hd hV hj;obtain⟨j,rfl⟩:=aA hj;have u1:=scanUp_spec (λx=>lt x d[a]!) d J _ i rfl;have u2:=scanDown_spec (λx=> !lt x d[a]!) d (scanUp (λx=>lt x d[a]!) d J i) J;rw[partLoop_eq];unfold fx;rw[p13 cm a d (by omega) hd hV J hJ _ i kk _ rfl (by omega)];dsimp only;rw[p15 cm a d (by omega) hd hV _ (by omega) J kk _ hJ (by omega)];dsimp only;generalize scanUp (λx=>lt x d[a]!) d J i=i2 at*;generalize scanDown (λx=> !lt x d[a]!) d i2 J=j2 at*;by_cases q:i2>j2
  . rw[ai (p:=(i2:Int)>(j2:Int)) (by omega),ah q];exact⟨rfl,⟨rfl,hV⟩,by first|omega|(dsimp only;omega),by first|omega|(dsimp only;omega)⟩
  . rw[al (p:=(i2:Int)>(j2:Int)) (by omega),ae q,ac];have ne:i2≠j2:=λe=>by subst e;have v1:=u1.2.2.2 (by omega);have v2:=u2.2.2.2 (aM _) (by omega);simp only[Bool.not_eq_false']at v1 v2;rw[v1]at v2;cases v2
    have g:=gg (V:=V) hV (show i2<d.size by omega) (show j2<d.size by omega);obtain⟨k1,k2,k3,k4⟩:=ih (i2+1) (j2-1) (swp d i2 j2) j nx (by omega) (by omega) (by omega) (by rw[g.sz];omega) (by rw[g.sz];exact hd) g.av (by omega);rw[swA (show i2<d.size by omega) (show j2<d.size by omega) (λl=>fx kk j (a:Int) P t (wr .i64 ((i2:Int)+1)) (wr .i64 ((j2:Int)-1)) l nx),ak (by omega),wrm (by omega) (by omega)];exact⟨k1,g.trans k2,by omega,by omega⟩
theorem ql (cm:Cm kk P t lt V)(hkk:400≤kk)(a:Nat):∀(n i J:Nat)(d:Array Int)(j:Nat){ρ:Type}(nx:((((Int×Unit)×((List Int)×Unit))->Option ρ)×Unit)),J+1-i≤n->a<i->i≤J+1->J<d.size->d.size≤150->AV V d->n+1≤j->
    fw kk j (a:Int) P t (i:Int) (J:Int) d.toList nx=nx.1 ((((partEqLoop lt a i J d).1:Int),()),((partEqLoop lt a i J d).2.toList,()))/\Gd V d (partEqLoop lt a i J d).2/\i≤(partEqLoop lt a i J d).1/\(partEqLoop lt a i J d).1≤J+1:=by
 intro n
 induction n with
 |zero=>
  intro i J d j ρ nx hn ha hij hJ hd hV hj;obtain⟨j,rfl⟩:=aA hj;have u1:=scanUp_spec (λx=> !lt d[a]! x) d J _ i rfl;have u2:=scanDown_spec (λx=>lt d[a]! x) d (scanUp (λx=> !lt d[a]! x) d J i) J;rw[partEqLoop_eq];unfold fw;rw[q3 cm a d (by omega) hd hV J hJ _ i kk _ rfl (by omega)];dsimp only;rw[q5 cm a d (by omega) hd hV _ (by omega) J kk _ hJ (by omega)];dsimp only;generalize scanUp (λx=> !lt d[a]! x) d J i=i2 at*;generalize scanDown (λx=>lt d[a]! x) d i2 J=j2 at*;have q:i2>j2:=by omega
  rw[ai (p:=(i2:Int)>(j2:Int)) (by omega),ah q];exact⟨rfl,⟨rfl,hV⟩,by first|omega|(dsimp only;omega),by first|omega|(dsimp only;omega)⟩
 |succ n ih=>
  intro i J d j ρ nx hn ha hij hJ hd hV hj;obtain⟨j,rfl⟩:=aA hj;have u1:=scanUp_spec (λx=> !lt d[a]! x) d J _ i rfl;have u2:=scanDown_spec (λx=>lt d[a]! x) d (scanUp (λx=> !lt d[a]! x) d J i) J;rw[partEqLoop_eq];unfold fw;rw[q3 cm a d (by omega) hd hV J hJ _ i kk _ rfl (by omega)];dsimp only;rw[q5 cm a d (by omega) hd hV _ (by omega) J kk _ hJ (by omega)];dsimp only;generalize scanUp (λx=> !lt d[a]! x) d J i=i2 at*;generalize scanDown (λx=>lt d[a]! x) d i2 J=j2 at*;by_cases q:i2>j2
  . rw[ai (p:=(i2:Int)>(j2:Int)) (by omega),ah q];exact⟨rfl,⟨rfl,hV⟩,by first|omega|(dsimp only;omega),by first|omega|(dsimp only;omega)⟩
  . rw[al (p:=(i2:Int)>(j2:Int)) (by omega),ae q,ac];have ne:i2≠j2:=λe=>by subst e;have v1:=u1.2.2.2 (by omega);have v2:=u2.2.2.2 (aM _) (by omega);simp only[Bool.not_eq_false']at v1 v2;rw[v1]at v2;cases v2
    have g:=gg (V:=V) hV (show i2<d.size by omega) (show j2<d.size by omega);obtain⟨k1,k2,k3,k4⟩:=ih (i2+1) (j2-1) (swp d i2 j2) j nx (by omega) (by omega) (by omega) (by rw[g.sz];omega) (by rw[g.sz];exact hd) g.av (by omega);rw[swA (show i2<d.size by omega) (show j2<d.size by omega) (λl=>fw kk j (a:Int) P t (wr .i64 ((i2:Int)+1)) (wr .i64 ((j2:Int)-1)) l nx),ak (by omega),wrm (by omega) (by omega)];exact⟨k1,g.trans k2,by omega,by omega⟩
theorem Hy (cm:Cm kk P t lt V)(hkk:400≤kk)(a b p:Nat)(d:Array Int)(ha:a≤p)(hp:p<b)(hb:b≤d.size)(hd:d.size≤150)(hV:AV V d):
    f198 kk (a:Int) (b:Int) (p:Int) P t d.toList=some ((((partition lt d a b p).1:Int),(partition lt d a b p).2.1,()),((partition lt d a b p).2.2.toList,()))/\Gd V d (partition lt d a b p).2.2/\a≤(partition lt d a b p).1/\(partition lt d a b p).1<b:=by
 have g0:=gg (V:=V) hV (show a<d.size by omega) (show p<d.size by omega);unfold f198;rw[swA (show a<d.size by omega) (show p<d.size by omega) (λl=>ml kk kk (a:Int) P t (wr .i64 ((a:Int)+1)) (wr .i64 ((b:Int)-1)) l _),ak (by omega),wrm (by omega) (by omega)];unfold partition;dsimp only;generalize swp d a p=e at*;have s0:=g0.sz;have u1:=scanUp_spec (λx=>lt x e[a]!) e (b-1) _ (a+1) rfl;have u2:=scanDown_spec (λx=> !lt x e[a]!) e (scanUp (λx=>lt x e[a]!) e (b-1) (a+1)) (b-1);rw[p3 cm a e (by omega) (by omega) g0.av (b-1) (by omega) _ (a+1) kk _ rfl (by omega)];dsimp only;rw[p5 cm a e (by omega) (by omega) g0.av _ (by omega) (b-1) kk _ (by omega) (by omega)];dsimp only;generalize scanUp (λx=>lt x e[a]!) e (b-1) (a+1)=i2 at*;generalize scanDown (λx=> !lt x e[a]!) e i2 (b-1)=j2 at*;by_cases q:i2>j2
 . rw[ai (p:=(i2:Int)>(j2:Int)) (by omega),ah q,ab];rw[swA (show j2<e.size by omega) (show a<e.size by omega) (λl=>some (((j2:Int),true,()),(l,())))];exact⟨rfl,g0.trans (gg g0.av (by omega) (by omega)),by first|omega|(dsimp only;omega),by first|omega|(dsimp only;omega)⟩
 . rw[al (p:=(i2:Int)>(j2:Int)) (by omega),ae q,ac];have ne:i2≠j2:=λe=>by subst e;have v1:=u1.2.2.2 (by omega);have v2:=u2.2.2.2 (aM _) (by omega);simp only[Bool.not_eq_false']at v1 v2;rw[v1]at v2;cases v2
   have g1:=gg (V:=V) g0.av (show i2<e.size by omega) (show j2<e.size by omega);have s1:=g1.sz;rw[swA (show i2<e.size by omega) (show j2<e.size by omega) (λl=>fx kk kk (a:Int) P t (wr .i64 ((i2:Int)+1)) (wr .i64 ((j2:Int)-1)) l _),ak (by omega),wrm (by omega) (by omega)];obtain⟨k1,k2,k3,k4⟩:=pl cm hkk a _ (i2+1) (j2-1) (swp e i2 j2) kk (ρ:=(Int×Bool×Unit)×((List Int)×Unit)) _ (aM _) (by omega) (by omega) (by omega) (by omega) g1.av (by omega);rw[k1];dsimp only;generalize partLoop lt a (i2+1) (j2-1) (swp e i2 j2)=r at*;have s2:=k2.sz;rw[swA (show r.1<r.2.size by omega) (show a<r.2.size by omega) (λl=>some (((r.1:Int),false,()),(l,())))];exact⟨rfl,g0.trans (g1.trans (k2.trans (gg k2.av (by omega) (by omega)))),by first|omega|(dsimp only;omega),by first|omega|(dsimp only;omega)⟩
theorem A7 (cm:Cm kk P t lt V)(hkk:400≤kk)(a b p:Nat)(d:Array Int)(ha:a≤p)(hp:p<b)(hb:b≤d.size)(hd:d.size≤150)(hV:AV V d):
    f197 kk (a:Int) (b:Int) (p:Int) P t d.toList=some ((((partitionEqual lt d a b p).1:Int),()),((partitionEqual lt d a b p).2.toList,()))/\Gd V d (partitionEqual lt d a b p).2/\a<(partitionEqual lt d a b p).1/\(partitionEqual lt d a b p).1≤b:=by
 have g0:=gg (V:=V) hV (show a<d.size by omega) (show p<d.size by omega);unfold f197;rw[swA (show a<d.size by omega) (show p<d.size by omega) (λl=>fw kk kk (a:Int) P t (wr .i64 ((a:Int)+1)) (wr .i64 ((b:Int)-1)) l _),ak (by omega),wrm (by omega) (by omega)];unfold partitionEqual;generalize swp d a p=e at*;have s0:=g0.sz;obtain⟨k1,k2,k3,k4⟩:=ql cm hkk a _ (a+1) (b-1) e kk (ρ:=(Int×Unit)×((List Int)×Unit)) _ (aM _) (by omega) (by omega) (by omega) (by omega) g0.av (by omega);rw[k1];exact⟨rfl,g0.trans k2,by omega,by omega⟩
theorem ux (cm:Cm kk P t lt V)(a b s:Nat)(d:Array Int)(ha:a<d.size)(hb:b<d.size)(hs:s<1000)(hV:AV V d):
    f240 kk d.toList (a:Int) (b:Int) P t (s:Int)=some ((((order2 lt d a b s).1:Int),((order2 lt d a b s).2.1:Int),()),((((order2 lt d a b s).2.2:Int),()),()))/\(order2 lt d a b s).1<d.size/\(order2 lt d a b s).2.1<d.size/\(order2 lt d a b s).2.2≤s+1:=by
 obtain⟨c,c1,c2⟩:=cm.h _ _ (hV b hb) (hV a ha);unfold f240 order2;rw[giA hb,giA ha];simp only[aa];rw[c1];simp only[aa];rw[c2]
 cases lt d[b]! d[a]! with
 |true=>rw[ak (by omega)];exact⟨rfl,hb,ha,aM _⟩
 |false=>exact⟨rfl,ha,hb,Nat.le_succ _⟩
theorem uj (cm:Cm kk P t lt V)(a b c s:Nat)(d:Array Int)(ha:a<d.size)(hb:b<d.size)(hc:c<d.size)(hs:s<900)(hV:AV V d):
    f227 kk d.toList (a:Int) (b:Int) (c:Int) P t (s:Int)=some ((((median lt d a b c s).1:Int),()),((((median lt d a b c s).2:Int),()),()))/\(median lt d a b c s).1<d.size/\(median lt d a b c s).2≤s+3:=by
 unfold f227 median;dsimp only;obtain⟨x1,x2,x3,x4⟩:=ux cm a b s d ha hb (by omega) hV;rw[x1];simp only[aa];obtain⟨y1,y2,y3,y4⟩:=ux cm (order2 lt d a b s).2.1 c (order2 lt d a b s).2.2 d x3 hc (by omega) hV;rw[y1];simp only[aa];obtain⟨z1,z2,z3,z4⟩:=ux cm (order2 lt d a b s).1 (order2 lt d (order2 lt d a b s).2.1 c (order2 lt d a b s).2.2).1 (order2 lt d (order2 lt d a b s).2.1 c (order2 lt d a b s).2.2).2.2 d x2 y2 (by omega) hV;rw[z1];exact⟨rfl,z3,by omega⟩
theorem Cv (cm:Cm kk P t lt V)(a s:Nat)(d:Array Int)(h1:1≤a)(ha:a+1<d.size)(hd:d.size≤150)(hs:s<900)(hV:AV V d):
    f226 kk d.toList (a:Int) P t (s:Int)=some ((((medianAdjacent lt d a s).1:Int),()),((((medianAdjacent lt d a s).2:Int),()),()))/\(medianAdjacent lt d a s).1<d.size/\(medianAdjacent lt d a s).2≤s+3:=by
 unfold f226 medianAdjacent;obtain⟨x1,x2,x3⟩:=uj cm (a-1) a (a+1) s d (by omega) (by omega) ha hs hV;rw[wrm h1 (by omega),ak (by omega),x1];exact⟨rfl,x2,x3⟩
def Cg :Hint->Int
 |.unknown=>0
 |.increasing=>1
 |.decreasing=>2
theorem Mw (v s:Nat){ρ:Type}(nx:((((Int×Int×Unit)×Unit)->Option ρ)×Unit)):mf kk (v:Int) (s:Int) nx=nx.1 (((v:Int),Cg (if s=0 then .increasing else if s=12 then .decreasing else .unknown),()),()):=by
 unfold mf;by_cases h0:s=0
 . subst h0;rfl
 . rw[ae h0,show((s:Int)==0)=false from jK.2 (by omega)];by_cases h1:s=12
   . subst h1;rfl
   . rw[ae h1,show((s:Int)==12)=false from jK.2 (by omega)];rfl
theorem wml {n m:Nat}(h:n*m<4611686018427387904):wr .i64 ((n:Int)*(m:Int))=((n*m:Nat):Int):=by rw[aw (by rw[<-Int.natCast_mul];omega) (by rw[<-Int.natCast_mul];omega),Int.natCast_mul]
theorem OU (cm:Cm kk P t lt V)(a b:Nat)(d:Array Int)(hab:a<b)(hb:b≤d.size)(hd:d.size≤150)(hV:AV V d):
    f194 kk d.toList (a:Int) (b:Int) P t=some ((((choosePivot lt d a b).1:Int),Cg (choosePivot lt d a b).2,()),()):=by
 unfold f194 choosePivot;have w0:wr .i64 ((((b-a)/4:Nat):Int))=(((b-a)/4:Nat):Int):=aw (by omega) (by omega);rw[wrs (show a≤b by omega) (by omega),show((b-a:Nat):Int).tdiv 4=((((b-a)/4:Nat)):Int)from rfl];have w1:wr .i64 ((((b-a)/4:Nat):Int)*1)=(((b-a)/4*1:Nat):Int):=wml (m:=1) (by omega);have w2:wr .i64 ((((b-a)/4:Nat):Int)*2)=(((b-a)/4*2:Nat):Int):=wml (m:=2) (by omega);have w3:wr .i64 ((((b-a)/4:Nat):Int)*3)=(((b-a)/4*3:Nat):Int):=wml (m:=3) (by omega);dsimp only;rw[w0,w1,w2,w3,wra (by omega),wra (by omega),wra (by omega)];by_cases h8:b-a≥8
 . rw[ai (p:=((b-a:Nat):Int)≥8) (by omega),ah h8,ab];by_cases h50:b-a≥50
   . rw[ai (p:=((b-a:Nat):Int)≥50) (by omega),ah h50,ab];obtain⟨x1,x2,x3⟩:=Cv cm (a+(b-a)/4*1) 0 d (by omega) (by omega) hd (by omega) hV;rw[show((0:Nat):Int)=0 from rfl]at x1;rw[x1];simp only[aa];obtain⟨y1,y2,y3⟩:=Cv cm (a+(b-a)/4*2) (medianAdjacent lt d (a+(b-a)/4*1) 0).2 d (by omega) (by omega) hd (by omega) hV;rw[y1];simp only[aa];obtain⟨z1,z2,z3⟩:=Cv cm (a+(b-a)/4*3) (medianAdjacent lt d (a+(b-a)/4*2) (medianAdjacent lt d (a+(b-a)/4*1) 0).2).2 d (by omega) (by omega) hd (by omega) hV;rw[z1];simp only[aa];obtain⟨m1,m2,m3⟩:=uj cm _ _ _ (medianAdjacent lt d (a+(b-a)/4*3) (medianAdjacent lt d (a+(b-a)/4*2) (medianAdjacent lt d (a+(b-a)/4*1) 0).2).2).2 d x2 y2 z2 (by omega) hV;rw[m1];simp only[aa];rw[Mw]
   . rw[al (p:=((b-a:Nat):Int)≥50) (by omega),ae h50,ac];obtain⟨m1,m2,m3⟩:=uj cm (a+(b-a)/4*1) (a+(b-a)/4*2) (a+(b-a)/4*3) 0 d (by omega) (by omega) (by omega) (by omega) hV;rw[show((0:Nat):Int)=0 from rfl]at m1;rw[m1];simp only[aa];rw[Mw]
 . rw[al (p:=((b-a:Nat):Int)≥8) (by omega),ae h8,ac];have:=Mw (kk:=kk) (a+(b-a)/4*2) 0 (ρ:=(Int×Int×Unit)×Unit) (λx29=>some ((x29.1.1,x29.1.2.1,()),()),());rw[show((0:Nat):Int)=0 from rfl]at this;rw[this]
theorem rvl :∀(n i J:Nat)(d:Array Int)(j:Nat){ρ:Type}(nx:(((Unit×((List Int)×Unit))->Option ρ)×Unit)),J-i=n->J<d.size->d.size≤150->AV V d->n+1≤j->
    oG kk j (i:Int) (J:Int) d.toList nx=nx.1 ((),((reverseLoop i J d).toList,()))/\Gd V d (reverseLoop i J d):=by
 intro n
 induction n using Nat.strongRecOn with
 |_ n ih=>
  intro i J d j ρ nx hn hJ hd hV hj;obtain⟨j,rfl⟩:=aA hj;unfold oG;rw[reverseLoop];by_cases q:i<J
  . rw[dlt (show(i:Int)<(J:Int) by omega),ah q,ab,swA (show i<d.size by omega) hJ (λl=>oG kk j (wr .i64 ((i:Int)+1)) (wr .i64 ((J:Int)-1)) l nx),ak (by omega),wrm (by omega) (by omega)];have g:=gg (V:=V) hV (show i<d.size by omega) hJ;obtain⟨k1,k2⟩:=ih (J-1-(i+1)) (by omega) (i+1) (J-1) (swp d i J) j nx rfl (by rw[g.sz];omega) (by rw[g.sz];exact hd) g.av (by omega);exact⟨k1,g.trans k2⟩
  . rw[eJ (by omega),ae q];exact⟨rfl,rfl,hV⟩
theorem rev_eq (hkk:400≤kk)(a b:Nat)(d:Array Int)(hab:a<b)(hb:b≤d.size)(hd:d.size≤150)(hV:AV V d):f195 kk (a:Int) (b:Int) P t d.toList=some ((),((reverseRange d a b).toList,()))/\Gd V d (reverseRange d a b):=by unfold f195 reverseRange;rw[wrm (by omega) (by omega)];obtain⟨k1,k2⟩:=rvl (V:=V) (kk:=kk) _ a (b-1) d kk (ρ:=Unit×((List Int)×Unit)) _ rfl (by omega) hd hV (by omega);rw[k1];exact⟨rfl,k2⟩
end
section
variable {kk : Nat} {P : qz} {t : Int} {lt : Int → Int → Bool} {V : Int → Prop}
theorem pi5 (cm:Cm kk P t lt V)(a b:Nat)(c:Int)(d:Array Int)(hb:b≤d.size)(hd:d.size≤150)(hV:AV V d):∀(n i j:Nat){ρ:Type}(nx:((((Unit×Int×Int×StG×Int×Int×Unit)×((List Int)×Unit))->Option ρ)×Unit)),b-i=n->1≤i->n+1≤j->
    oH kk j (a:Int) (b:Int) P t (i:Int) c d.toList nx=nx.1 (((),(a:Int),(b:Int),(((),P),t),((scanSorted lt d b i:Nat):Int),c,()),(d.toList,())):=by
 intro n
 induction n with
 |zero=>
  intro i j ρ nx hn h1 hj;obtain⟨j,rfl⟩:=aA hj;unfold oH scanSorted;rw[eJ (by omega),al (p:=i<b) (by omega)];rfl
 |succ n ih=>
  intro i j ρ nx hn h1 hj;obtain⟨j,rfl⟩:=aA hj;have hi:i<d.size:=by omega
  obtain⟨x,c1,c2⟩:=cm.h _ _ (hV i hi) (hV (i-1) (by omega));unfold oH scanSorted;rw[dlt (show(i:Int)<(b:Int) by omega),ai (p:=i<b) (by omega),wrm h1 (by omega),ab,rdA hi,rdA (show i-1<d.size by omega),c1];simp only[aa,bj];rw[c2,ak (by omega)]
  cases e:lt d[i]! d[i-1]! with
  |false=>simp only[dK,ab,fI];exact ih (i+1) j nx (by omega) (by omega) (by omega)
  |true=>rfl
theorem BQ (d:Array Int)(b:Nat):∀(n i:Nat),b-i=n->i≤scanSorted lt d b i/\(i≤b->scanSorted lt d b i≤b):=by
 intro n
 induction n with
 |zero=>intro i h;rw[scanSorted];rw[ae (by simp;omega)];exact⟨aM _,λh=>h⟩
 |succ n ih=>
  intro i h;rw[scanSorted];split
  . have:=ih (i+1) (by omega);exact⟨by omega,λ_=>this.2 (by omega)⟩
  . exact⟨aM _,λh=>h⟩
theorem V9 (cm:Cm kk P t lt V)(a b i c:Int):∀(m:Nat)(d:Array Int)(j:Nat){ρ:Type}(nx:((((Unit×Int×Int×StG×Int×Int×Unit)×((List Int)×Unit))->Option ρ)×Unit)),m<d.size->d.size≤150->AV V d->m+1≤j->
    iW kk j a b P t i c (m:Int) d.toList nx=nx.1 (((),a,b,(((),P),t),i,c,()),((shiftDown lt m d).toList,()))/\Gd V d (shiftDown lt m d)
 |0,d,j,ρ,nx,hm,hd,hV,hj=>by
  obtain⟨j,rfl⟩:=aA hj;unfold iW;rw[al (p:=((0:Nat):Int)≥1) (by omega)];exact⟨rfl,rfl,hV⟩
 |m+1,d,j,ρ,nx,hm,hd,hV,hj=>by
  obtain⟨j,rfl⟩:=aA hj;obtain⟨x,c1,c2⟩:=cm.h _ _ (hV (m+1) hm) (hV m (by omega));unfold iW shiftDown;rw[ai (p:=((m+1:Nat):Int)≥1) (by omega),wrp (by omega),ab,rdA hm,rdA (show m<d.size by omega),c1];simp only[aa];rw[c2]
  cases e:lt d[m+1]! d[m]! with
  |false=>exact⟨rfl,rfl,hV⟩
  |true=>have g:=gg (V:=V) hV hm (show m<d.size by omega);obtain⟨k1,k2⟩:=V9 cm a b i c m (swp d (m+1) m) j nx (by rw[g.sz];omega) (by rw[g.sz];exact hd) g.av (by omega);simp only[bi,ac];rw[swA hm (show m<d.size by omega) (λl=>iW kk j a b P t i c (m:Int) l nx)];exact⟨k1,g.trans k2⟩
theorem aaH (cm:Cm kk P t lt V)(a:Int)(b:Nat)(i c:Int):∀(n m:Nat)(d:Array Int)(j:Nat){ρ:Type}(nx:((((Unit×Int×Int×StG×Int×Int×Unit)×((List Int)×Unit))->Option ρ)×Unit)),b-m=n->1≤m->b≤d.size->d.size≤150->AV V d->n+1≤j->
    j4 kk j a (b:Int) P t i c (m:Int) d.toList nx=nx.1 (((),a,(b:Int),(((),P),t),i,c,()),((shiftUp lt b m d).toList,()))/\Gd V d (shiftUp lt b m d):=by
 intro n
 induction n with
 |zero=>
  intro m d j ρ nx hn h1 hb hd hV hj;obtain⟨j,rfl⟩:=aA hj;unfold j4;rw[shiftUp,eJ (by omega),ae (by omega)];exact⟨rfl,rfl,hV⟩
 |succ n ih=>
  intro m d j ρ nx hn h1 hb hd hV hj;obtain⟨j,rfl⟩:=aA hj;have hm:m<d.size:=by omega
  have hm1:m-1<d.size:=by omega
  obtain⟨x,c1,c2⟩:=cm.h _ _ (hV m hm) (hV (m-1) hm1);unfold j4;rw[shiftUp,dlt (show(m:Int)<(b:Int) by omega),ah (show m<b by omega),wrm h1 (by omega),ab,rdA hm,rdA hm1,c1];simp only[aa];rw[c2]
  cases e:lt d[m]! d[m-1]! with
  |false=>exact⟨rfl,rfl,hV⟩
  |true=>have g:=gg (V:=V) hV hm hm1;obtain⟨k1,k2⟩:=ih (m+1) (swp d m (m-1)) j nx (by omega) (by omega) (by rw[g.sz];exact hb) (by rw[g.sz];exact hd) g.av (by omega);simp only[bi,ac];rw[swA hm hm1 (λl=>j4 kk j a (b:Int) P t i c (wr .i64 ((m:Int)+1)) l nx),ak (by omega)];exact⟨k1,g.trans k2⟩
theorem Wa (cm:Cm kk P t lt V)(hkk:400≤kk)(a:Int)(b i:Nat)(c:Int)(d:Array Int){ρ:Type}(nx:((((Unit×Int×Int×StG×Int×Int×Unit)×((List Int)×Unit))->Option ρ)×Unit))(hi:i≤b)(hb:b≤d.size)(hd:d.size≤150)(hV:AV V d):
    mg kk a (b:Int) P t (i:Int) c d.toList nx=nx.1 (((),a,(b:Int),(((),P),t),(i:Int),c,()),((if b-i≥2 then shiftUp lt b (i+1) d else d).toList,()))/\Gd V d (if b-i≥2 then shiftUp lt b (i+1) d else d):=by
 unfold mg;rw[wrs hi (by omega)];by_cases q:b-i≥2
 . rw[ai (p:=((b-i:Nat):Int)≥2) (by omega),ah q,ab,ak (by omega)];obtain⟨k1,k2⟩:=aaH cm a b (i:Int) c _ (i+1) d kk (ρ:=ρ) _ rfl (by omega) hb hd hV (by omega);rw[k1];exact⟨rfl,k2⟩
 . rw[al (p:=((b-i:Nat):Int)≥2) (by omega),ae q];exact⟨rfl,rfl,hV⟩
theorem pi3 (cm:Cm kk P t lt V)(hkk:400≤kk)(a b:Nat):∀(s i:Nat)(d:Array Int)(j:Nat){ρ:Type}(nx:((((Unit×((List Int)×Unit))->Option ρ)×(((Bool×Unit)×((List Int)×Unit))->Option ρ)×Unit)))(R:Bool->List Int->Option ρ),(∀l,nx.1 ((),(l,()))=R false l)->(∀c l,nx.2.1 ((c,()),(l,()))=R c l)->
    s≤5->a+1≤i->i≤b->b≤d.size->d.size≤150->AV V d->s+1≤j->
    mh kk j (a:Int) (b:Int) P t (i:Int) ((5-s:Nat):Int) d.toList nx=R (partialIns lt a b s i d).2 (partialIns lt a b s i d).1.toList/\Gd V d (partialIns lt a b s i d).1
 |0,i,d,j,ρ,nx,R,hR,hR2,hs,ha,hi,hb,hd,hV,hj=>by
  obtain⟨j,rfl⟩:=aA hj;unfold mh;rw[eJ (by omega)];exact⟨hR _,rfl,hV⟩
 |s+1,i,d,j,ρ,nx,R,hR,hR2,hs,ha,hi,hb,hd,hV,hj=>by
  obtain⟨j,rfl⟩:=aA hj;unfold mh;rw[dlt (by omega),ab,pi5 cm a b _ d hb hd hV _ i kk _ rfl (by omega) (by omega)];dsimp only;rw[partialIns];have u:=BQ (lt:=lt) d b _ i rfl;generalize scanSorted lt d b i=i2 at*;dsimp only;by_cases q:i2=b
  . rw[ah q,show((i2:Int)==(b:Int))=true from by rw[q];exact dV _];exact⟨hR2 _ _,rfl,hV⟩
  . rw[ae q,show((i2:Int)==(b:Int))=false from jK.2 (by omega),ac,wrs (show a≤b by omega) (by omega)];have ub:=u.2 hi;by_cases q2:b-a<50
    . rw[ah q2,dlt (by omega)];exact⟨hR2 _ _,rfl,hV⟩
    . have h1:i2<d.size:=by omega
      have h2:i2-1<d.size:=by omega
      have g:=gg (V:=V) hV h1 h2;have w5:wr .i64 (((5-(s+1):Nat):Int)+1)=((5-s:Nat):Int):=by rw[ak (by omega)];congr 1;omega
      rw[ae q2,eJ (by omega),ac,wrm (by omega) (by omega),wrs (show a≤i2 by omega) (by omega)];rw[swA h1 h2 (λl=>bif decide (((i2-a:Nat):Int)≥2)then iW kk kk (a:Int) (b:Int) P t (i2:Int) ((5-(s+1):Nat):Int) ((i2-1:Nat):Int) l _ else mg kk (a:Int) (b:Int) P t (i2:Int) ((5-(s+1):Nat):Int) l _)];by_cases q3:i2-a≥2
      . rw[ai (p:=((i2-a:Nat):Int)≥2) (by omega),ah q3,ab];obtain⟨k1,k2⟩:=V9 cm (a:Int) (b:Int) (i2:Int) ((5-(s+1):Nat):Int) (i2-1) (swp d i2 (i2-1)) kk (ρ:=ρ) _ (by rw[g.sz];exact h2) (by rw[g.sz];exact hd) g.av (by omega);rw[k1];dsimp only;have g2:=g.trans k2;obtain⟨m1,m2⟩:=Wa cm hkk (a:Int) b i2 ((5-(s+1):Nat):Int) (shiftDown lt (i2-1) (swp d i2 (i2-1))) (ρ:=ρ) _ ub (by rw[g2.sz];exact hb) (by rw[g2.sz];exact hd) g2.av;rw[m1];dsimp only;rw[w5];have g3:=g2.trans m2;obtain⟨r1,r2⟩:=pi3 cm hkk a b s i2 _ j nx R hR hR2 (by omega) (by omega) ub (by rw[g3.sz];exact hb) (by rw[g3.sz];exact hd) g3.av (by omega);exact⟨r1,g3.trans r2⟩
      . rw[al (p:=((i2-a:Nat):Int)≥2) (by omega),ae q3,ac];obtain⟨m1,m2⟩:=Wa cm hkk (a:Int) b i2 ((5-(s+1):Nat):Int) (swp d i2 (i2-1)) (ρ:=ρ) _ ub (by rw[g.sz];exact hb) (by rw[g.sz];exact hd) g.av;rw[m1];dsimp only;rw[w5];have g3:=g.trans m2;obtain⟨r1,r2⟩:=pi3 cm hkk a b s i2 _ j nx R hR hR2 (by omega) (by omega) ub (by rw[g3.sz];exact hb) (by rw[g3.sz];exact hd) g3.av (by omega);exact⟨r1,g3.trans r2⟩
theorem Tw (cm:Cm kk P t lt V)(hkk:400≤kk)(a b:Nat)(d:Array Int)(hab:a<b)(hb:b≤d.size)(hd:d.size≤150)(hV:AV V d):
    f196 kk (a:Int) (b:Int) P t d.toList=some (((partialInsertionSort lt d a b).2,()),((partialInsertionSort lt d a b).1.toList,()))/\Gd V d (partialInsertionSort lt d a b).1:=by
 unfold f196 partialInsertionSort;rw[ak (by omega)];exact pi3 cm hkk a b 5 (a+1) d kk _ (λc l=>some ((c,()),(l,()))) (λ_=>rfl) (λ_ _=>rfl) (aM _) (aM _) (by omega) hb hd hV (by omega)
theorem sd5 (cm:Cm kk P t lt V)(hi:Int)(f r c:Nat)(d:Array Int){ρ:Type}(nx:((((Unit×Int×Int×StG×Int×Unit)×((List Int)×Unit))->Option ρ)×((Unit×((List Int)×Unit))->Option ρ)×Unit))(hr:f+r<d.size)(hc:f+c<d.size)(hd:d.size≤150)(hV:AV V d):
    my kk hi (f:Int) P t (r:Int) (c:Int) d.toList nx=if !lt d[f+r]! d[f+c]! then nx.2.1 ((),(d.toList,()))else nx.1 (((),hi,(f:Int),(((),P),t),(c:Int),()),((swp d (f+r) (f+c)).toList,())):=by
 obtain⟨x,c1,c2⟩:=cm.h _ _ (hV _ hr) (hV _ hc);unfold my;rw[wra (by omega),wra (by omega),rdA hr,rdA hc,c1];simp only[aa];rw[c2,swA hr hc (λl=>nx.1 (((),hi,(f:Int),(((),P),t),(c:Int),()),(l,())))];cases lt d[f+r]! d[f+c]! <;>rfl
theorem sd1 (cm:Cm kk P t lt V)(hi f:Nat):∀(n r:Nat)(d:Array Int)(j:Nat){ρ:Type}(nx:(((Unit×((List Int)×Unit))->Option ρ)×((Unit×((List Int)×Unit))->Option ρ)×Unit))(R:List Int->Option ρ),(∀l,nx.1 ((),(l,()))=R l)->(∀l,nx.2.1 ((),(l,()))=R l)->hi-r=n->f+hi≤d.size->d.size≤150->r≤150->AV V d->n+1≤j->
    kr kk j (hi:Int) (f:Int) P t (r:Int) d.toList nx=R (siftDown lt hi f r d).toList/\Gd V d (siftDown lt hi f r d):=by
 intro n
 induction n using Nat.strongRecOn with
 |_ n ih=>
  intro r d j ρ nx R h1 h2 hn hb hd hrr hV hj;obtain⟨j,rfl⟩:=aA hj;have w2:wr .i64 (2*(r:Int))=((2*r:Nat):Int):=by rw[aw (by omega) (by omega)];omega
  unfold kr;rw[siftDown];dsimp only;rw[w2,ak (show 2*r<_ by omega)];by_cases q:2*r+1≥hi
  . rw[ai (p:=((2*r+1:Nat):Int)≥(hi:Int)) (by omega),gE q];exact⟨h1 _,rfl,hV⟩
  . have go:∀c,c<hi->r<c->∀{ρ':Type}(_:ρ'=ρ),my kk (hi:Int) (f:Int) P t (r:Int) (c:Int) d.toList
        (λx66:((Unit×Int×Int×StG×Int×Unit)×((List Int)×Unit))=>kr kk j x66.1.2.1 x66.1.2.2.1 x66.1.2.2.2.1.1.2 x66.1.2.2.2.1.2 x66.1.2.2.2.2.1 x66.2.1 nx,
         λx67:(Unit×((List Int)×Unit))=>nx.2.1 ((),(x67.2.1,())),())=R (if !lt d[f+r]! d[f+c]! then d else siftDown lt hi f c (swp d (f+r) (f+c))).toList/\Gd V d (if !lt d[f+r]! d[f+c]! then d else siftDown lt hi f c (swp d (f+r) (f+c))):=by
     intro c hc hrc ρ' _;rw[sd5 cm (hi:Int) f r c d _ (by omega) (by omega) hd hV]
     cases e:lt d[f+r]! d[f+c]! with
     |false=>exact⟨h2 _,rfl,hV⟩
     |true=>have g:=gg (V:=V) hV (show f+r<d.size by omega) (show f+c<d.size by omega);obtain⟨k1,k2⟩:=ih (hi-c) (by omega) c (swp d (f+r) (f+c)) j nx R h1 h2 rfl (by rw[g.sz];exact hb) (by rw[g.sz];exact hd) (by omega) g.av (by omega);exact⟨k1,g.trans k2⟩
    rw[al (p:=((2*r+1:Nat):Int)≥(hi:Int)) (by omega),dif_neg q,ac,ak (show 2*r+1<_ by omega)];by_cases q2:2*r+1+1<hi
    . have x1:f+(2*r+1)<d.size:=by omega
      have x2:f+(2*r+1)+1<d.size:=by omega
      obtain⟨x,c1,c2⟩:=cm.h _ _ (hV _ x1) (hV _ x2);rw[dlt (show((2*r+1+1:Nat):Int)<(hi:Int) by omega),ai q2,bj,ab,wra (show f+(2*r+1)<_ by omega),ak (show f+(2*r+1)<_ by omega),rdA x1,rdA x2,c1];simp only[aa];rw[c2]
      cases e:lt d[f+(2*r+1)]! d[f+(2*r+1)+1]! with
      |true=>
       rw[ah rfl,gE (show 2*r+2<hi by omega)];exact go (2*r+2) (by omega) (by omega) rfl
      |false=>exact go (2*r+1) (by omega) (by omega) rfl
    . rw[eJ (show(hi:Int)≤((2*r+1+1:Nat):Int) by omega),al q2,oY];exact go (2*r+1) (by omega) (by omega) rfl
theorem RG (cm:Cm kk P t lt V)(hkk:400≤kk)(hi f r:Nat)(d:Array Int)(hb:f+hi≤d.size)(hd:d.size≤150)(hr:r≤150)(hV:AV V d):
    f223 kk (r:Int) (hi:Int) (f:Int) P t d.toList=some ((),((siftDown lt hi f r d).toList,()))/\Gd V d (siftDown lt hi f r d):=by
 unfold f223;exact sd1 cm hi f _ r d kk _ (λl=>some ((),(l,()))) (λ_=>rfl) (λ_=>rfl) rfl hb hd hr hV (by omega)
theorem hp4 (cm:Cm kk P t lt V)(hkk:400≤kk)(f lo hi:Nat):∀(n:Nat)(d:Array Int)(j:Nat){ρ:Type}(nx:((((Unit×StG×Int×Int×Int×Unit)×((List Int)×Unit))->Option ρ)×Unit)),f+hi≤d.size->d.size≤150->n≤150->AV V d->n+1≤j->
    oF kk j P t (f:Int) (lo:Int) (hi:Int) ((n:Int)-1) d.toList nx=nx.1 (((),(((),P),t),(f:Int),(lo:Int),(hi:Int),()),((heapBuild lt hi f n d).toList,()))/\Gd V d (heapBuild lt hi f n d)
 |0,d,j,ρ,nx,hb,hd,hn,hV,hj=>by
  obtain⟨j,rfl⟩:=aA hj;unfold oF;rw[al (p:=((0:Nat):Int)-1≥0) (by omega)];exact⟨rfl,rfl,hV⟩
 |n+1,d,j,ρ,nx,hb,hd,hn,hV,hj=>by obtain⟨j,rfl⟩:=aA hj;unfold oF;rw[show((n+1:Nat):Int)-1=(n:Int) by omega,ai (p:=(n:Int)≥0) (by omega),ab];obtain⟨k1,g⟩:=RG cm hkk hi f n d hb hd (by omega) hV;rw[k1,aw (by omega) (by omega)];obtain⟨m1,m2⟩:=hp4 cm hkk f lo hi n _ j nx (by rw[g.sz];exact hb) (by rw[g.sz];exact hd) (by omega) g.av (by omega);exact⟨m1,g.trans m2⟩
theorem hp8 (cm:Cm kk P t lt V)(hkk:400≤kk)(f:Nat):∀(n:Nat)(d:Array Int)(j:Nat){ρ:Type}(nx:(((Unit×((List Int)×Unit))->Option ρ)×Unit)),f+n≤d.size->d.size≤150->AV V d->n+1≤j->
    ko kk j P t (f:Int) 0 ((n:Int)-1) d.toList nx=nx.1 ((),((heapPop lt f n d).toList,()))/\Gd V d (heapPop lt f n d)
 |0,d,j,ρ,nx,hb,hd,hV,hj=>by
  obtain⟨j,rfl⟩:=aA hj;unfold ko;rw[al (p:=((0:Nat):Int)-1≥0) (by omega)];exact⟨rfl,rfl,hV⟩
 |n+1,d,j,ρ,nx,hb,hd,hV,hj=>by obtain⟨j,rfl⟩:=aA hj;have g:=gg (V:=V) hV (show f<d.size by omega) (show f+n<d.size by omega);unfold ko;rw[show((n+1:Nat):Int)-1=(n:Int) by omega,ai (p:=(n:Int)≥0) (by omega),ab,wra (by omega)];rw[swA (show f<d.size by omega) (show f+n<d.size by omega) (λl=>(f223 kk 0 (n:Int) (f:Int) P t l).bind λx50=>ko kk j P t (f:Int) 0 (wr .i64 ((n:Int)-1)) x50.2.1 nx)];obtain⟨k1,k2⟩:=RG cm hkk n f 0 (swp d f (f+n)) (by rw[g.sz];omega) (by rw[g.sz];exact hd) (by omega) g.av;rw[show((0:Nat):Int)=0 from rfl]at k1;rw[k1,aw (by omega) (by omega)];have g2:=g.trans k2;obtain⟨m1,m2⟩:=hp8 cm hkk f n _ j nx (by rw[g2.sz];omega) (by rw[g2.sz];exact hd) g2.av (by omega);exact⟨m1,g2.trans m2⟩
theorem Sr (cm:Cm kk P t lt V)(hkk:400≤kk)(a b:Nat)(d:Array Int)(hab:a<b)(hb:b≤d.size)(hd:d.size≤150)(hV:AV V d):
    f192 kk (a:Int) (b:Int) P t d.toList=some ((),((heapSort lt d a b).toList,()))/\Gd V d (heapSort lt d a b):=by
 unfold f192 heapSort;dsimp only;rw[wrs (show a≤b by omega) (by omega),wrm (show 1≤b-a by omega) (by omega),show((b-a-1:Nat):Int).tdiv 2=(((b-a-1)/2:Nat):Int)from rfl,aw (x:=(((b-a-1)/2:Nat):Int)) (by omega) (by omega),show(((b-a-1)/2:Nat):Int)=(((b-a-1)/2+1:Nat):Int)-1 by omega];obtain⟨k1,g⟩:=hp4 cm hkk a 0 (b-a) ((b-a-1)/2+1) d kk (ρ:=Unit×((List Int)×Unit)) (λx29=>ko kk kk x29.1.2.1.1.2 x29.1.2.1.2 x29.1.2.2.1 x29.1.2.2.2.1 (wr .i64 (x29.1.2.2.2.2.1-1)) x29.2.1 (λx30=>some ((),(x30.2.1,())),()),()) (by omega) hd (by omega) hV (by omega);rw[show((0:Nat):Int)=0 from rfl]at k1;rw[k1];dsimp only;rw[aw (x:=((b-a:Nat):Int)-1) (by omega) (by omega)];obtain⟨m1,m2⟩:=hp8 cm hkk a (b-a) _ kk (ρ:=Unit×((List Int)×Unit)) (λx30=>some ((),(x30.2.1,())),()) (by rw[g.sz];omega) (by rw[g.sz];exact hd) g.av (by omega);rw[m1];exact⟨rfl,g.trans m2⟩
end
section
variable {kk : Nat} {P : qz} {t : Int} {lt : Int → Int → Bool} {V : Int → Prop}
theorem Yi (n:Int):f142 kk n=f142 0 n:=rfl
theorem Sv :∀n:Fin 151,f142 0 (n.val:Int)=some ((((bitsLen n.val:Nat):Int),()),()):=by decide+kernel
theorem KT {n:Nat}(h:n≤150):f142 kk (n:Int)=some ((((bitsLen n:Nat):Int),()),()):=(Yi _).trans (Sv ⟨n,by omega⟩)
theorem wuq {n:Nat}(h:n<18446744073709551616):wr .u64 (n:Int)=(n:Int):=by unfold wr;rw[IntKind.wrap_u64];omega
theorem HC {n:Nat}(h:n≤150):f224 kk (n:Int)=some ((((1<<<bitsLen n:Nat):Int),()),())/\1<<<bitsLen n≤1024:=by
 have hb:bitsLen n≤8:=(by decide+kernel:∀n:Fin 151,bitsLen n.val≤8) ⟨n,by omega⟩;have hp:(2:Nat)^bitsLen n≤2^8:=Nat.pow_le_pow_right (by omega) hb;unfold f224;rw[wuq (by omega),KT h];simp only[aa];rw[al (p:=((bitsLen n:Nat):Int)<0) (by omega),ac,Nat.one_shiftLeft];refine⟨?_,by omega⟩;unfold fe;rw[IntKind.wrap_u64,bK,show min (bitsLen n) (IntKind.u64.bits)=bitsLen n from jN (by show bitsLen n≤64;omega),jO,show(2:Int)^bitsLen n=((2^bitsLen n:Nat):Int) by rw[Int.natCast_pow];rfl];generalize 2^bitsLen n=m at hp⊢
 congr 3;omega
theorem ofI (a:UInt64):BitVec.ofInt 64 (a.toNat:Int)=a.toBitVec:=by rw[BitVec.ofInt_natCast];exact BitVec.eq_of_toNat_eq (by rw[BitVec.toNat_ofNat];exact jM a.toNat_lt)
theorem xor_eq (a b:UInt64):w9 .u64 (a.toNat:Int) (b.toNat:Int)=((a^^^b).toNat:Int):=by unfold w9;rw[show IntKind.u64.bits=64 from rfl,ofI,ofI,IntKind.wrap_u64,show(a.toBitVec^^^b.toBitVec).toNat=(a^^^b).toNat from rfl];have:=(a^^^b).toNat_lt;omega
theorem L0 (a:UInt64)(n:UInt64)(hn:n.toNat<64):fe .u64 (a.toNat:Int) (n.toNat:Int)=((a<<<n).toNat:Int):=by unfold fe;rw[bK,show min n.toNat (IntKind.u64.bits)=n.toNat from jN (by show n.toNat≤64;omega),IntKind.wrap_u64,UInt64.toNat_shiftLeft,jM hn,Nat.shiftLeft_eq,show(a.toNat:Int)*2^n.toNat=((a.toNat*2^n.toNat:Nat):Int) by rw[Int.natCast_mul,Int.natCast_pow];rfl];generalize a.toNat*2^n.toNat=x;omega
theorem WE (a:UInt64)(n:UInt64)(hn:n.toNat<64):fy .u64 (a.toNat:Int) (n.toNat:Int)=((a>>>n).toNat:Int):=by unfold fy;rw[bK,show min n.toNat (IntKind.u64.bits)=n.toNat from jN (by show n.toNat≤64;omega),UInt64.toNat_shiftRight,jM hn,Nat.shiftRight_eq_div_pow,show(2:Int)^n.toNat=((2^n.toNat:Nat):Int) by rw[Int.natCast_pow];rfl,Int.fdiv_eq_ediv_of_nonneg _ (Int.natCast_nonneg _)];rfl
theorem SD (r:UInt64):f225 kk (r.toNat:Int)=some ((((xorNext r).toNat:Int),()),((((xorNext r).toNat:Int),()),())):=by have h1:=L0 r 13 (by decide);have h2:=WE (r^^^(r<<<13)) 7 (by decide);have h3:=L0 ((r^^^(r<<<13))^^^((r^^^(r<<<13))>>>7)) 17 (by decide);rw[show(((13:UInt64).toNat:Nat):Int)=13 from rfl]at h1;rw[show(((7:UInt64).toNat:Nat):Int)=7 from rfl]at h2;rw[show(((17:UInt64).toNat:Nat):Int)=17 from rfl]at h3;unfold f225 xorNext;dsimp only;rw[h1,xor_eq,h2,xor_eq,h3,xor_eq]
theorem and_eq (r:UInt64){m:Nat}(h0:1≤m)(hm:m≤1024):wr .i64 (fc .u64 (r.toNat:Int) (wr .u64 ((m:Int)-1)))=((r.toNat&&&(m-1):Nat):Int):=by have hle:r.toNat&&&(m-1)≤m-1:=Nat.and_le_right;rw[show(m:Int)-1=((m-1:Nat):Int) by omega,wuq (by omega)];unfold fc;rw[show IntKind.u64.bits=64 from rfl,ofI,BitVec.ofInt_natCast,IntKind.wrap_u64,BitVec.toNat_and,BitVec.toNat_ofNat,jM (show m-1<2^64 by omega),show r.toBitVec.toNat=r.toNat from rfl,aw (by omega) (by omega)];omega
theorem TZ (a L:Int)(m:Int)(idx o:Nat)(r:Int)(a':Nat)(ha:a=(a':Int))(d:Array Int){ρ:Type}(nx:((((Unit×Int×Int×Unit×Int×Int×Unit)×((List Int)×(Int×Unit)×Unit))->Option ρ)×Unit))(hi:idx<d.size)(ho:a'+o<d.size)(hd:d.size≤150):
    pd kk a L m (idx:Int) (o:Int) d.toList r nx=nx.1 (((),a,L,(),m,(idx:Int),()),((swp d idx (a'+o)).toList,(r,()),())):=by
 subst ha;unfold pd;rw[wra (by omega),swA hi ho (λl=>nx.1 (((),(a':Int),L,(),m,(idx:Int),()),(l,(r,()),())))]
theorem bp5 (a L:Nat)(hL:L≤150)(h8:8≤L)(idx:Nat)(r:UInt64)(d:Array Int)(j:Nat){ρ:Type}(nx:(((Unit×((List Int)×Unit))->Option ρ)×Unit))(hb:a+L≤d.size)(hd:d.size≤150)(h1:idx≤a+L/4*2+1)(hV:AV V d):
    kq kk (j+1) (a:Int) (L:Int) ((1<<<bitsLen L:Nat):Int) (idx:Int) d.toList (r.toNat:Int) nx=kq kk j (a:Int) (L:Int) ((1<<<bitsLen L:Nat):Int) ((idx+1:Nat):Int) (breakStep a L (1<<<bitsLen L) (r,d) idx).2.toList ((breakStep a L (1<<<bitsLen L) (r,d) idx).1.toNat:Int) nx/\Gd V d (breakStep a L (1<<<bitsLen L) (r,d) idx).2:=by
 have p2:=HC (kk:=kk) hL;have hp:2^bitsLen L≤2*L:=two_pow_bitsLen_le (by omega);have hpos:0<2^bitsLen L:=Nat.two_pow_pos _;rw[Nat.one_shiftLeft]at p2⊢;generalize 2^bitsLen L=m at*;have hle:(xorNext r).toNat&&&(m-1)≤m-1:=Nat.and_le_right;rw[kq.eq_2];dsimp only;rw[show((L:Nat):Int).tdiv 4=((L/4:Nat):Int)from rfl,aw (x:=((L/4:Nat):Int)) (by omega) (by omega),aw (x:=((L/4:Nat):Int)*2) (by omega) (by omega),aw (x:=(a:Int)+((L/4:Nat):Int)*2) (by omega) (by omega),aw (x:=(a:Int)+((L/4:Nat):Int)*2+1) (by omega) (by omega),dle (by omega),ab,SD];simp only[aa];rw[and_eq _ (by omega) (by omega)];unfold breakStep;dsimp only;generalize (xorNext r).toNat&&&(m-1)=o at*;by_cases q:o≥L
 . rw[ai (p:=(o:Int)≥(L:Int)) (by omega),ah q,ab,wrs q (by omega),TZ (a':=a) (ha:=rfl) (hi:=by omega) (ho:=by omega) (hd:=hd)];dsimp only;rw[ak (by omega)];exact⟨rfl,gg hV (by omega) (by omega)⟩
 . rw[al (p:=(o:Int)≥(L:Int)) (by omega),ae q,ac,TZ (a':=a) (ha:=rfl) (hi:=by omega) (ho:=by omega) (hd:=hd)];dsimp only;rw[ak (by omega)];exact⟨rfl,gg hV (by omega) (by omega)⟩
theorem Ms (hkk:400≤kk)(a b:Nat)(d:Array Int)(hab:a+8≤b)(hb:b≤d.size)(hd:d.size≤150)(hV:AV V d):
    f193 kk (a:Int) (b:Int) P t d.toList=some ((),((breakPatterns d a b).toList,()))/\Gd V d (breakPatterns d a b):=by
 unfold f193 breakPatterns;dsimp only;have hL:b-a≤150:=by omega
 rw[wrs (show a≤b by omega) (by omega),ai (p:=((b-a:Nat):Int)≥8) (by omega),ah (show b-a≥8 by omega),ab,(HC hL).1];simp only[aa];rw[show((b-a:Nat):Int).tdiv 4=(((b-a)/4:Nat):Int)from rfl,aw (x:=(((b-a)/4:Nat):Int)) (by omega) (by omega),aw (x:=(((b-a)/4:Nat):Int)*2) (by omega) (by omega),aw (x:=(a:Int)+(((b-a)/4:Nat):Int)*2) (by omega) (by omega),show(a:Int)+(((b-a)/4:Nat):Int)*2=((a+(b-a)/4*2:Nat):Int) by omega,wrm (by omega) (by omega),wuq (by omega)];have e0:((b-a:Nat):Int)=((UInt64.ofNat (b-a)).toNat:Int):=by rw[UInt64.toNat_ofNat_of_lt' (by show b-a<2^64;omega)]
 obtain⟨k,rfl⟩:∃k,kk=k+4:=⟨kk-4,by omega⟩;have hs:=λ(d':Array Int)(h:d'.size=d.size)=>(show a+(b-a)≤d'.size by omega)
 obtain⟨x1,x2⟩:=bp5 (kk:=k+4) (V:=V) a (b-a) hL (by omega) (a+(b-a)/4*2-1) (UInt64.ofNat (b-a)) d (k+3) (ρ:=Unit×((List Int)×Unit)) (λx30=>some ((),(x30.2.1,())),()) (hs _ rfl) hd (by omega) hV;rw[<-e0]at x1;rw[x1];generalize breakStep a (b-a) (1<<<bitsLen (b-a)) (UInt64.ofNat (b-a),d) (a+(b-a)/4*2-1)=s1 at*;obtain⟨r1,d1⟩:=s1;obtain⟨y1,y2⟩:=bp5 (kk:=k+4) (V:=V) a (b-a) hL (by omega) (a+(b-a)/4*2-1+1) r1 d1 (k+2) (ρ:=Unit×((List Int)×Unit)) (λx30=>some ((),(x30.2.1,())),()) (hs _ x2.sz) (by rw[x2.sz];exact hd) (by omega) x2.av;rw[y1];have g2:=x2.trans y2;generalize breakStep a (b-a) (1<<<bitsLen (b-a)) (r1,d1) (a+(b-a)/4*2-1+1)=s2 at*;obtain⟨r2,d2⟩:=s2;obtain⟨z1,z2⟩:=bp5 (kk:=k+4) (V:=V) a (b-a) hL (by omega) (a+(b-a)/4*2-1+1+1) r2 d2 (k+1) (ρ:=Unit×((List Int)×Unit)) (λx30=>some ((),(x30.2.1,())),()) (hs _ g2.sz) (by rw[g2.sz];exact hd) (by omega) g2.av;rw[z1];unfold kq;dsimp only;rw[show((b-a:Nat):Int).tdiv 4=(((b-a)/4:Nat):Int)from rfl,aw (x:=(((b-a)/4:Nat):Int)) (by omega) (by omega),aw (x:=(((b-a)/4:Nat):Int)*2) (by omega) (by omega),aw (x:=(a:Int)+(((b-a)/4:Nat):Int)*2) (by omega) (by omega),aw (x:=(a:Int)+(((b-a)/4:Nat):Int)*2+1) (by omega) (by omega),lK (by omega)];exact⟨rfl,g2.trans z2⟩
end
section
variable {kk : Nat} {P : qz} {t : Int} {lt : Int → Int → Bool} {V : Int → Prop}
theorem V8 {d d':Array Int}{a b:Nat}(hb:b≤d.size)(h:PermIn a b d d')(hV:AV V d)(i:Nat)(hi:i<d'.size):V d'[i]! :=by
 by_cases h1:a≤i/\i<b
 . exact permIn_all d d' a b V hb h (λj h1 h2=>hV j (by omega)) i h1.1 h1.2
 . rw[h.2.1 i (by omega)];exact hV i (by rw[<-h.1];exact hi)
structure Rd where
 a:Nat
 b:Nat
 bal:Bool
 ap:Bool
 d:Array Int
def r20 (lt:Int->Int->Bool)(d:Array Int)(a b limit p:Nat):Rd:=
 if(partition lt d a b p).1-a<b-(partition lt d a b p).1 then⟨(partition lt d a b p).1+1,b,decide ((partition lt d a b p).1-a≥(b-a)/8),(partition lt d a b p).2.1,pdq lt (partition lt d a b p).2.2 a (partition lt d a b p).1 limit true true⟩
 else⟨a,(partition lt d a b p).1,decide (b-(partition lt d a b p).1≥(b-a)/8),(partition lt d a b p).2.1,pdq lt (partition lt d a b p).2.2 ((partition lt d a b p).1+1) b limit true true⟩
def r17 (lt:Int->Int->Bool)(d:Array Int)(a b limit p:Nat)(wb wp:Bool):Rd:=
 if a>0&& !lt d[a-1]! d[p]! then⟨(partitionEqual lt d a b p).1,b,wb,wp,(partitionEqual lt d a b p).2⟩else r20 lt d a b limit p
abbrev BX :=Int->Int->Int->qz->Int->(List Int)->Option (Unit×((List Int)×Unit))
def xr (lt:Int->Int->Bool)(V:Int->Prop)(P:qz)(t:Int)(bz:BX)(n limit:Nat):Prop:=
 ∀(a b:Nat)(d:Array Int),b-a<n->a≤b->b≤d.size->d.size≤150->AV V d->bz (a:Int) (b:Int) (limit:Int) P t d.toList=some ((),((pdq lt d a b limit true true).toList,()))/\Gd V d (pdq lt d a b limit true true)
def Ct (V:Int->Prop)(d:Array Int)(a b:Nat)(r:Rd):Prop:=r.b-r.a<b-a/\r.a≤r.b/\r.b≤b/\Gd V d r.d
abbrev StL :=(Unit×Int×Int×Int×StG×Bool×Bool×Unit)×((List Int)×Unit)
theorem KQ (cm:Cm kk P t lt V)(hkk:400≤kk)(bz:BX)(a b limit p:Nat)(d:Array Int)(hs:xr lt V P t bz (b-a) limit)(ha:a≤p)(hp:p<b)(hb:b≤d.size)(hd:d.size≤150)(hV:AV V d){ρ:Type}(nx:((StL->Option ρ)×Unit)):
    pb bz kk (a:Int) (b:Int) (limit:Int) P t ((b-a:Nat):Int) (p:Int) d.toList nx=nx.1 (((),((r20 lt d a b limit p).a:Int),((r20 lt d a b limit p).b:Int),(limit:Int),(((),P),t),(r20 lt d a b limit p).bal,(r20 lt d a b limit p).ap,()),((r20 lt d a b limit p).d.toList,()))/\Ct V d a b (r20 lt d a b limit p):=by
 obtain⟨k1,k2,k3,k4⟩:=Hy cm hkk a b p d ha hp hb hd hV;unfold pb r20 Ct;rw[k1];simp only[aa];generalize partition lt d a b p=q at*;have sz:=k2.sz;rw[wrs k3 (by omega),wrs (show q.1≤b by omega) (by omega),show((b-a:Nat):Int).tdiv 8=(((b-a)/8:Nat):Int)from rfl,aw (x:=(((b-a)/8:Nat):Int)) (by omega) (by omega)];by_cases h:q.1-a<b-q.1
 . obtain⟨s1,s2⟩:=hs a q.1 q.2.2 (by omega) k3 (by omega) (by omega) k2.av;rw[dlt (show((q.1-a:Nat):Int)<((b-q.1:Nat):Int) by omega),ab,s1,ah h];simp only[aa];rw[ak (by omega),show decide (((q.1-a:Nat):Int)≥(((b-a)/8:Nat):Int))=decide (q.1-a≥(b-a)/8)from jL.2 (by omega)];exact⟨rfl,by omega,by omega,by omega,k2.trans s2⟩
 . obtain⟨s1,s2⟩:=hs (q.1+1) b q.2.2 (by omega) (by omega) (by omega) (by omega) k2.av;rw[eJ (show((b-q.1:Nat):Int)≤((q.1-a:Nat):Int) by omega),ac,ak (by omega),s1,ae h];simp only[aa];rw[show decide (((b-q.1:Nat):Int)≥(((b-a)/8:Nat):Int))=decide (b-q.1≥(b-a)/8)from jL.2 (by omega)];exact⟨rfl,by omega,by omega,by omega,k2.trans s2⟩
theorem VY (cm:Cm kk P t lt V)(hkk:400≤kk)(bz:BX)(a b limit p L:Nat)(wb wp:Bool)(d:Array Int)(hL:L=b-a)(hs:xr lt V P t bz (b-a) limit)(ha:a≤p)(hp:p<b)(hb:b≤d.size)(hd:d.size≤150)(hV:AV V d){ρ:Type}(nx:((StL->Option ρ)×(StL->Option ρ)×Unit))
    (G:StL->Option ρ) (h1:∀s,nx.1 s=G s) (h2:∀a b c d e l,nx.2.1 (((),a,b,c,(((),P),t),d,e,()),(l,()))=G (((),a,b,c,(((),P),t),d,e,()),(l,()))):
    iV bz kk (a:Int) (b:Int) (limit:Int) P t wb wp (L:Int) (p:Int) d.toList nx=G (((),((r17 lt d a b limit p wb wp).a:Int),((r17 lt d a b limit p wb wp).b:Int),(limit:Int),(((),P),t),(r17 lt d a b limit p wb wp).bal,(r17 lt d a b limit p wb wp).ap,()),((r17 lt d a b limit p wb wp).d.toList,()))/\Ct V d a b (r17 lt d a b limit p wb wp):=by
 subst hL;unfold iV r17;by_cases h0:a>0
 . have x1:a-1<d.size:=by omega
   have x2:p<d.size:=by omega
   obtain⟨c,c1,c2⟩:=cm.h _ _ (hV _ x1) (hV _ x2);rw[ai (p:=(a:Int)>0) (by omega),ai h0,ab,wrm (by omega) (by omega),rdA x1,rdA x2,c1,bj];simp only[aa];rw[c2]
   cases lt d[a-1]! d[p]! with
   |false=>
    obtain⟨k1,k2,k3,k4⟩:=A7 cm hkk a b p d ha hp hb hd hV;simp only[dK,ab,fI];rw[k1];simp only[aa];exact⟨h1 _,by dsimp only;omega,k4,aM _,k2⟩
   |true=>obtain⟨k1,k2⟩:=KQ cm hkk bz a b limit p d hs ha hp hb hd hV (ρ:=ρ) (λx169=>nx.2.1 (((),x169.1.2.1,x169.1.2.2.1,x169.1.2.2.2.1,(((),x169.1.2.2.2.2.1.1.2),x169.1.2.2.2.2.1.2),x169.1.2.2.2.2.2.1,x169.1.2.2.2.2.2.2.1,()),(x169.2.1,())),());simp only[bi,ac];rw[k1];exact⟨h2 _ _ _ _ _ _,k2⟩
 . obtain⟨k1,k2⟩:=KQ cm hkk bz a b limit p d hs ha hp hb hd hV (ρ:=ρ) (λx169=>nx.2.1 (((),x169.1.2.1,x169.1.2.2.1,x169.1.2.2.2.1,(((),x169.1.2.2.2.2.1.1.2),x169.1.2.2.2.2.1.2),x169.1.2.2.2.2.2.1,x169.1.2.2.2.2.2.2.1,()),(x169.2.1,())),());rw[al (p:=(a:Int)>0) (by omega),al h0,ac,oY];rw[k1];exact⟨h2 _ _ _ _ _ _,k2⟩
theorem VX (cm:Cm kk P t lt V)(hkk:400≤kk)(bz:BX)(a b limit p L:Nat)(wb wp:Bool)(hint:Hint)(d:Array Int)(hL:L=b-a)(hh:hint≠ .decreasing)(hs:xr lt V P t bz (b-a) limit)(ha:a≤p)(hp:p<b)(hb:b≤d.size)(hd:d.size≤150)(hV:AV V d){ρ:Type}(nx:((StL->Option ρ)×(StL->Option ρ)×((Unit×((List Int)×Unit))->Option ρ)×Unit))
    (G:StL->Option ρ) (h1:∀a b c d e l,nx.1 (((),a,b,c,(((),P),t),d,e,()),(l,()))=G (((),a,b,c,(((),P),t),d,e,()),(l,()))) (h2:∀a b c d e l,nx.2.1 (((),a,b,c,(((),P),t),d,e,()),(l,()))=G (((),a,b,c,(((),P),t),d,e,()),(l,())))
    (pi:Array Int×Bool) (hpi:pi=if wb&&wp&&decide (hint=.increasing)then partialInsertionSort lt d a b else(d,false)):
    (lW bz kk (a:Int) (b:Int) (limit:Int) P t wb wp (L:Int) (p:Int) (Cg hint) d.toList nx=if pi.2 then nx.2.2.1 ((),(pi.1.toList,()))else G (((),((r17 lt pi.1 a b limit p wb wp).a:Int),((r17 lt pi.1 a b limit p wb wp).b:Int),(limit:Int),(((),P),t),(r17 lt pi.1 a b limit p wb wp).bal,(r17 lt pi.1 a b limit p wb wp).ap,()),((r17 lt pi.1 a b limit p wb wp).d.toList,())))/\Gd V d pi.1/\Ct V d a b (r17 lt pi.1 a b limit p wb wp):=by
 have go:∀(e:Array Int)(_:Gd V d e){ρ':Type}(_:ρ'=ρ),
     iV bz kk (a:Int) (b:Int) (limit:Int) P t wb wp (L:Int) (p:Int) e.toList
      (λx147:StL=>nx.1 (((),x147.1.2.1,x147.1.2.2.1,x147.1.2.2.2.1,(((),x147.1.2.2.2.2.1.1.2),x147.1.2.2.2.2.1.2),x147.1.2.2.2.2.2.1,x147.1.2.2.2.2.2.2.1,()),(x147.2.1,())),
       λx148:StL=>nx.2.1 (((),x148.1.2.1,x148.1.2.2.1,x148.1.2.2.2.1,(((),x148.1.2.2.2.2.1.1.2),x148.1.2.2.2.2.1.2),x148.1.2.2.2.2.2.1,x148.1.2.2.2.2.2.2.1,()),(x148.2.1,())),())
     =G (((),((r17 lt e a b limit p wb wp).a:Int),((r17 lt e a b limit p wb wp).b:Int),(limit:Int),(((),P),t),(r17 lt e a b limit p wb wp).bal,(r17 lt e a b limit p wb wp).ap,()),((r17 lt e a b limit p wb wp).d.toList,()))/\Ct V d a b (r17 lt e a b limit p wb wp):=by
  intro e ge ρ' _;have:=ge.sz
  obtain⟨k1,k2⟩:=VY cm hkk bz a b limit p L wb wp e hL hs ha hp (by omega) (by omega) ge.av (ρ:=ρ)
   (λx147:StL=>nx.1 (((),x147.1.2.1,x147.1.2.2.1,x147.1.2.2.2.1,(((),x147.1.2.2.2.2.1.1.2),x147.1.2.2.2.2.1.2),x147.1.2.2.2.2.2.1,x147.1.2.2.2.2.2.2.1,()),(x147.2.1,())),
    λx148:StL=>nx.2.1 (((),x148.1.2.1,x148.1.2.2.1,x148.1.2.2.2.1,(((),x148.1.2.2.2.2.1.1.2),x148.1.2.2.2.2.1.2),x148.1.2.2.2.2.2.1,x148.1.2.2.2.2.2.2.1,()),(x148.2.1,())),())
   (λx147:StL=>nx.1 (((),x147.1.2.1,x147.1.2.2.1,x147.1.2.2.2.1,(((),x147.1.2.2.2.2.1.1.2),x147.1.2.2.2.2.1.2),x147.1.2.2.2.2.2.1,x147.1.2.2.2.2.2.2.1,()),(x147.2.1,()))) (λ_=>rfl) (λ_ _ _ _ _ _=>(h2 _ _ _ _ _ _).trans (h1 _ _ _ _ _ _).symm)
  exact⟨k1.trans (h1 _ _ _ _ _ _),k2.1,k2.2.1,k2.2.2.1,ge.trans k2.2.2.2⟩
 have same:Gd V d d:=⟨rfl,hV⟩;unfold lW
 cases wb with
 |false=>rw[hpi];exact⟨(go d same rfl).1,same,(go d same rfl).2⟩
 |true=>
  cases wp with
  |false=>rw[hpi];exact⟨(go d same rfl).1,same,(go d same rfl).2⟩
  |true=>
   cases hint with
   |decreasing=>exact absurd rfl hh
   |unknown=>rw[hpi];exact⟨(go d same rfl).1,same,(go d same rfl).2⟩
   |increasing=>
    have e1:pi=partialInsertionSort lt d a b:=hpi;obtain⟨k1,k2⟩:=Tw cm hkk a b d (by omega) hb hd hV;rw[<-e1]at k1 k2;show(bif((1:Int)==1)then _ else _)=_/\_;rw[show((1:Int)==1)=true from rfl,ab,k1];simp only[aa]
    cases e2:pi.2 with
    |true=>exact⟨rfl,k2,(go _ k2 rfl).2⟩
    |false=>exact⟨(go _ k2 rfl).1,k2,(go _ k2 rfl).2⟩
theorem OT (lt:Int->Int->Bool)(d:Array Int)(a b limit:Nat)(wb wp:Bool)(h12:¬b-a≤12)(hl:limit≠0)(d1 d2:Array Int)(lim p:Nat)(hint:Hint)(pi:Array Int×Bool)
    (e1:d1=if !wb then breakPatterns d a b else d) (el:lim=if !wb then limit-1 else limit) (e2:d2=if(choosePivot lt d1 a b).2=.decreasing then reverseRange d1 a b else d1)
    (ep:p=if(choosePivot lt d1 a b).2=.decreasing then(b-1)-((choosePivot lt d1 a b).1-a)else(choosePivot lt d1 a b).1) (eh:hint=if(choosePivot lt d1 a b).2=.decreasing then Hint.increasing else(choosePivot lt d1 a b).2)
    (hpi:pi=if wb&&wp&&decide (hint=.increasing)then partialInsertionSort lt d2 a b else(d2,false)) (hr:(r17 lt pi.1 a b lim p wb wp).b-(r17 lt pi.1 a b lim p wb wp).a<b-a)
    (hq:(a<(partitionEqual lt pi.1 a b p).1/\(partitionEqual lt pi.1 a b p).1≤b)) (hq2:a≤(partition lt pi.1 a b p).1/\(partition lt pi.1 a b p).1<b):
    pdq lt d a b limit wb wp=if pi.2 then pi.1 else pdq lt (r17 lt pi.1 a b lim p wb wp).d (r17 lt pi.1 a b lim p wb wp).a (r17 lt pi.1 a b lim p wb wp).b lim (r17 lt pi.1 a b lim p wb wp).bal (r17 lt pi.1 a b lim p wb wp).ap:=by
 rw[pdq,ae h12,ae hl];dsimp only;rw[<-e1,<-el,<-e2,<-ep,<-eh,<-hpi]
 cases pi.2 with
 |true=>rfl
 |false=>
  simp only[jg,iJ];unfold r17 r20;by_cases c1:(decide (a>0)&& !lt pi.1[a-1]! pi.1[p]!)=true
  . rw[ah c1,ah c1,gE hq]
  . rw[ae c1,ae c1,gE hq2];by_cases c2:(partition lt pi.1 a b p).1-a<b-(partition lt pi.1 a b p).1
    . rw[ah c2,ah c2]
    . rw[ae c2,ae c2]
theorem V7 (hS:SWO lt):∀(n:Nat)(k:Nat)(_:Cm k P t lt V)(_:∀k',400≤k'->Cm k' P t lt V)(a b limit:Nat)(wb wp:Bool)(d:Array Int)(j:Nat){ρ:Type}(nx:(((Unit×((List Int)×Unit))->Option ρ)×Unit)),b-a=n->a≤b->b≤d.size->d.size≤150->AV V d->limit≤150->400+n≤k->n+1≤j->
    fV (f141 k) k j (a:Int) (b:Int) (limit:Int) P t wb wp d.toList nx=nx.1 ((),((pdq lt d a b limit wb wp).toList,()))/\Gd V d (pdq lt d a b limit wb wp):=by
 intro n
 induction n using Nat.strongRecOn with
 |_ n ih=>
  intro k cm cma a b limit wb wp d j ρ nx hn hab hb hd hV hlim hk hj;obtain⟨j,rfl⟩:=aA hj;unfold fV;rw[wrs hab (by omega)];by_cases h12:b-a≤12
  . obtain⟨g1,g2⟩:=(⟨VV cm (by omega) a b d hb hd (by omega) hV,insertionSort_holds hS d a b hab hb⟩:_/\_);rw[dle (show((b-a:Nat):Int)≤12 by omega),ab,g1,pdq,ah h12];exact⟨rfl,g2.1.1,λi hi=>V8 hb g2.1 hV i hi⟩
  . rw[lK (show 12<((b-a:Nat):Int) by omega),ac];by_cases hl:limit=0
    . obtain⟨g1,g2⟩:=Sr cm (by omega) a b d (by omega) hb hd hV;rw[show((limit:Int)==0)=true from by rw[hl];rfl,ab,g1,pdq,ae h12,ah hl];exact⟨rfl,g2⟩
    . rw[show((limit:Int)==0)=false from jK.2 (by omega),ac];have bz:∀lim,lim≤150->xr lt V P t (f141 k) (b-a) lim:=by intro lim hl2 a' b' d' h1 h2 h3 h4 h5;obtain⟨k',rfl⟩:∃k',k=k'+1:=⟨k-1,by omega⟩;exact ih (b'-a') (by omega) k' (cma k' (by omega)) cma a' b' lim true true d' k' (ρ:=Unit×((List Int)×Unit)) _ rfl h2 h3 h4 h5 hl2 (by omega) (by omega)
      have rest:∀(d1:Array Int)(lim:Nat),lim≤150->Gd V d d1->d1=(if !wb then breakPatterns d a b else d)->lim=(if !wb then limit-1 else limit)->∀{ρ':Type}(_:ρ'=ρ),
          pa (f141 k) k (a:Int) (b:Int) (lim:Int) P t wb wp ((b-a:Nat):Int) d1.toList
           (λx111:StL=>fV (f141 k) k j x111.1.2.1 x111.1.2.2.1 x111.1.2.2.2.1 x111.1.2.2.2.2.1.1.2 x111.1.2.2.2.2.1.2 x111.1.2.2.2.2.2.1 x111.1.2.2.2.2.2.2.1 x111.2.1 nx,
            λx112:StL=>fV (f141 k) k j x112.1.2.1 x112.1.2.2.1 x112.1.2.2.2.1 x112.1.2.2.2.2.1.1.2 x112.1.2.2.2.2.1.2 x112.1.2.2.2.2.2.1 x112.1.2.2.2.2.2.2.1 x112.2.1 nx,
            λx113:(Unit×((List Int)×Unit))=>nx.1 ((),(x113.2.1,())),())=nx.1 ((),((pdq lt d a b limit wb wp).toList,()))/\Gd V d (pdq lt d a b limit wb wp):=by
       intro d1 lim hlm g1 e1 el ρ' _;have s1:=g1.sz;obtain⟨c1,c2⟩:=choosePivot_holds lt d1 a b (by omega);have cp:=OU cm a b d1 (by omega) (by omega) (by omega) g1.av;unfold pa;rw[cp];simp only[aa]
       have fin:∀(d2:Array Int)(p:Nat)(hint:Hint),Gd V d d2->a≤p->p<b->d2=(if(choosePivot lt d1 a b).2=.decreasing then reverseRange d1 a b else d1)->
           p=(if(choosePivot lt d1 a b).2=.decreasing then(b-1)-((choosePivot lt d1 a b).1-a)else(choosePivot lt d1 a b).1)->hint=(if(choosePivot lt d1 a b).2=.decreasing then Hint.increasing else(choosePivot lt d1 a b).2)->hint≠ .decreasing->
           ∀(nx':((StL->Option ρ)×(StL->Option ρ)×((Unit×((List Int)×Unit))->Option ρ)×Unit)),
           (∀a b c d e l,nx'.1 (((),a,b,c,(((),P),t),d,e,()),(l,()))=fV (f141 k) k j a b c P t d e l nx)->(∀a b c d e l,nx'.2.1 (((),a,b,c,(((),P),t),d,e,()),(l,()))=fV (f141 k) k j a b c P t d e l nx)->(∀l,nx'.2.2.1 ((),(l,()))=nx.1 ((),(l,())))->
           lW (f141 k) k (a:Int) (b:Int) (lim:Int) P t wb wp ((b-a:Nat):Int) (p:Int) (Cg hint) d2.toList nx'=nx.1 ((),((pdq lt d a b limit wb wp).toList,()))/\Gd V d (pdq lt d a b limit wb wp):=by
        intro d2 p hint g2 hp1 hp2 e2 ep eh hh nx' n1 n2 n3;have s2:=g2.sz;obtain⟨pi,hpi⟩:∃pi,pi=if wb&&wp&&decide (hint=.increasing)then partialInsertionSort lt d2 a b else(d2,false):=⟨_,rfl⟩
        obtain⟨q1,q2,q3⟩:=VX cm (by omega) (f141 k) a b lim p (b-a) wb wp hint d2 rfl hh (bz lim hlm) hp1 hp2 (by omega) (by omega) g2.av (ρ:=ρ) nx' (λs=>fV (f141 k) k j s.1.2.1 s.1.2.2.1 s.1.2.2.2.1 P t s.1.2.2.2.2.2.1 s.1.2.2.2.2.2.2.1 s.2.1 nx) n1 n2 pi hpi;have s3:=q2.sz;obtain⟨_,_,z1,z2⟩:=A7 cm (by omega) a b p pi.1 hp1 hp2 (by omega) (by omega) q2.av;obtain⟨_,_,z3,z4⟩:=Hy cm (by omega) a b p pi.1 hp1 hp2 (by omega) (by omega) q2.av;have st:=OT lt d a b limit wb wp h12 hl d1 d2 lim p hint pi e1 el e2 ep eh hpi q3.1 ⟨z1,z2⟩ ⟨z3,z4⟩;rw[q1,st]
        cases e:pi.2 with
        |true=>exact⟨n3 _,g2.trans q2⟩
        |false=>simp only[jg,iJ];have g4:=g2.trans q3.2.2.2;have s4:=g4.sz;obtain⟨v1,v2⟩:=ih _ (by have:=q3.1;omega) k cm cma (r17 lt pi.1 a b lim p wb wp).a (r17 lt pi.1 a b lim p wb wp).b lim (r17 lt pi.1 a b lim p wb wp).bal (r17 lt pi.1 a b lim p wb wp).ap (r17 lt pi.1 a b lim p wb wp).d j nx rfl q3.2.1 (by have:=q3.2.2.1;omega) (by omega) g4.av hlm (by have:=q3.1;omega) (by have:=q3.1;omega);exact⟨v1,g4.trans v2⟩
       cases eh:(choosePivot lt d1 a b).2 with
       |decreasing=>
        obtain⟨r1,r2⟩:=rev_eq (kk:=k) (P:=P) (t:=t) (by omega) a b d1 (by omega) (by omega) (by omega) g1.av;show(bif((2:Int)==2)then _ else _)=_/\_;rw[show((2:Int)==2)=true from rfl,ab,r1];simp only[aa];rw[wrm (by omega) (by omega),wrs c1 (by omega),wrs (show(choosePivot lt d1 a b).1-a≤b-1 by omega) (by omega)];exact fin (reverseRange d1 a b) (b-1-((choosePivot lt d1 a b).1-a)) .increasing (g1.trans r2) (by omega) (by omega) (by rw[eh];rfl) (by rw[eh];rfl) (by rw[eh];rfl) (by decide) _ (λ_ _ _ _ _ _=>rfl) (λ_ _ _ _ _ _=>rfl) (λ_=>rfl)
       |increasing=>exact fin d1 _ .increasing g1 c1 c2 (by rw[eh];rfl) (by rw[eh];rfl) (by rw[eh];rfl) (by decide) _ (λ_ _ _ _ _ _=>rfl) (λ_ _ _ _ _ _=>rfl) (λ_=>rfl)
       |unknown=>exact fin d1 _ .unknown g1 c1 c2 (by rw[eh];rfl) (by rw[eh];rfl) (by rw[eh];rfl) (by decide) _ (λ_ _ _ _ _ _=>rfl) (λ_ _ _ _ _ _=>rfl) (λ_=>rfl)
      cases wb with
      |false=>
       obtain⟨b1,b2⟩:=Ms (kk:=k) (P:=P) (t:=t) (by omega) a b d (by omega) hb hd hV;simp only[dK,ab];rw[b1];simp only[aa];rw[wrm (by omega) (by omega)];exact rest (breakPatterns d a b) (limit-1) (by omega) b2 rfl rfl rfl
      |true=>exact rest d limit hlim ⟨rfl,hV⟩ rfl rfl rfl
theorem TG (hkk:600≤kk)(cma:∀k',400≤k'->Cm k' P t lt V)(hS:SWO lt)(l:List Int)(hl:l.length≤150)(hV:∀x∈l,V x):
    ∃l':List Int,f91 kk P t l=some ((),(l',()))/\l'.Perm l/\l'.Pairwise λx y=>lt y x=false:=by
 obtain⟨k,rfl⟩:∃k,kk=k+1:=⟨kk-1,by omega⟩;have sz:l.toArray.size=l.length:=by simp
 have av:AV V l.toArray:=λi hi=>by rw[getElem!_pos l.toArray i hi];exact hV _ (by simp)
 obtain⟨k1,k2⟩:=V7 hS (l.length-0) k (cma k (by omega)) cma 0 l.length (bitsLen l.length) true true l.toArray k (ρ:=Unit×((List Int)×Unit)) (λx97=>some ((),(x97.2.1,())),()) rfl (eC _) (by rw[sz];exact aM _) (by rw[sz];exact hl) av
  (by have:=(by decide+kernel:∀n:Fin 151,bitsLen n.val≤150) ⟨l.length,by omega⟩;exact this) (by omega) (by omega)
 obtain⟨p1,p2⟩:=pdq_sorts lt hS l.toArray 0 l.length (bitsLen l.length) true true (eC _) (by rw[sz];exact aM _) (Or.inl rfl);generalize pdq lt l.toArray 0 l.length (bitsLen l.length) true true=r at*;refine⟨r.toList,?_,?_,?_⟩
 . unfold f91;rw[wuq (by omega),KT hl];simp only[aa];have e:f141 (k+1) 0 (l.length:Int) ((bitsLen l.length:Nat):Int) P t l=some ((),(r.toList,())):=k1;rw[e];rfl
 . have:=p1.2.2;rw[extract_toList r 0 l.length (by rw[k2.sz,sz];exact aM _),extract_toList l.toArray 0 l.length (by rw[sz];exact aM _)]at this;have f1:(List.range' 0 (l.length-0)).map (λi=>r[i]!)=r.toList:=by rw[<-extract_toList r 0 l.length (by rw[k2.sz,sz];exact aM _),show l.length=r.size by rw[k2.sz,sz],Array.extract_size]
   have f2:(List.range' 0 (l.length-0)).map (λi=>l.toArray[i]!)=l:=by rw[<-extract_toList l.toArray 0 l.length (by rw[sz];exact aM _)];simp
   rwa[f1,f2]at this
 . refine vE.2 λi j hi hj hij=> ?_
   have hr:r.size=l.length:=by rw[k2.sz,sz]
   have h1:i<r.size:=by simpa using hi
   have h2:j<r.size:=by simpa using hj
   have:=p2 i j (eC _) hij (by omega);rw[getElem!_pos r j h2,getElem!_pos r i h1]at this;simpa using this
end
end Go.Proofs.YtlkkaielmdlefaaGreatDoor.R
