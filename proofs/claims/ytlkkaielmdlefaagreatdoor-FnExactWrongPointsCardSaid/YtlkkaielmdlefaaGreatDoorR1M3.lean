/- Part 3: Plain twins of functions, with their contracts -/
import Derived.Test.YtlkkaielmdlefaaGreatDoorProg
import Derived.Test.YtlkkaielmdlefaaGreatDoorR1M2
set_option linter.unusedVariables false
set_option linter.unusedVariables false
namespace Go.Proofs.YtlkkaielmdlefaaGreatDoor.R
open R1
def tt :TT:=[
 (2,{k:=(.int .i64),size:=1,bytes:=8,zero:=[.int .i64 0],u:=(.int .i64)}),
 (3,{k:=(.int .i64),size:=1,bytes:=8,zero:=[.int .i64 0],u:=(.int .i64)}),
 (4,{k:=.bool,size:=1,bytes:=1,zero:=[.bool false],u:=.bool}),
 (5,{k:=(.int .u8),size:=1,bytes:=1,zero:=[.int .u8 0],u:=(.int .u8)}),
 (9,{k:=.str,size:=1,bytes:=16,zero:=[.str ByteArray.empty],u:=.str}),
 (22,{k:=(.sl 75),size:=1,bytes:=24,zero:=[.nils],u:=(.sl (.pair (.pair (.int .i64) (.pair (.int .i64) (.int .i64))) (.pair (.int .i64) (.pair (.int .i64) (.int .i64)))))}),
 (23,{k:=(.sl 79),size:=1,bytes:=24,zero:=[.nils],u:=(.sl (.pair (.int .i64) (.pair (.int .i64) (.int .i64))))}),
 (25,{k:=(.struct [(0,22),(1,23)]),size:=2,bytes:=48,zero:=[.nils,.nils],u:=(.pair (.sl (.pair (.pair (.int .i64) (.pair (.int .i64) (.int .i64))) (.pair (.int .i64) (.pair (.int .i64) (.int .i64))))) (.sl (.pair (.int .i64) (.pair (.int .i64) (.int .i64)))))}),
 (28,{k:=(.sl 71),size:=1,bytes:=24,zero:=[.nils],u:=(.sl (.pair (.pair (.int .i64) (.pair (.int .i64) (.int .i64))) (.pair (.int .i64) (.pair (.int .i64) (.int .i64)))))}),
 (29,{k:=(.sl 77),size:=1,bytes:=24,zero:=[.nils],u:=(.sl (.pair (.int .i64) (.pair (.int .i64) (.int .i64))))}),
 (31,{k:=(.struct [(0,28),(1,29)]),size:=2,bytes:=48,zero:=[.nils,.nils],u:=(.pair (.sl (.pair (.pair (.int .i64) (.pair (.int .i64) (.int .i64))) (.pair (.int .i64) (.pair (.int .i64) (.int .i64))))) (.sl (.pair (.int .i64) (.pair (.int .i64) (.int .i64)))))}),
 (36,{k:=(.struct [(0,2),(1,2),(2,4),(3,4),(4,4),(5,4)]),size:=6,bytes:=24,zero:=[.int .i64 0,.int .i64 0,.bool false,.bool false,.bool false,.bool false],u:=(.pair (.int .i64) (.pair (.int .i64) (.pair .bool (.pair .bool (.pair .bool .bool)))))}),
 (41,{k:=(.sl 2),size:=1,bytes:=24,zero:=[.nils],u:=(.sl (.int .i64))}),
 (47,{k:=(.sl 36),size:=1,bytes:=24,zero:=[.nils],u:=(.sl (.pair (.int .i64) (.pair (.int .i64) (.pair .bool (.pair .bool (.pair .bool .bool))))))}),
 (69,{k:=(.struct [(0,2),(1,2),(2,2)]),size:=3,bytes:=24,zero:=List.replicate 3 (.int .i64 0),u:=(.pair (.int .i64) (.pair (.int .i64) (.int .i64))),eq:=true}),
 (71,{k:=(.struct [(0,69),(3,69)]),size:=6,bytes:=48,zero:=List.replicate 6 (.int .i64 0),u:=(.pair (.pair (.int .i64) (.pair (.int .i64) (.int .i64))) (.pair (.int .i64) (.pair (.int .i64) (.int .i64))))}),
 (73,{k:=(.struct [(0,2),(1,2),(2,2)]),size:=3,bytes:=24,zero:=List.replicate 3 (.int .i64 0),u:=(.pair (.int .i64) (.pair (.int .i64) (.int .i64)))}),
 (75,{k:=(.struct [(0,73),(3,73)]),size:=6,bytes:=48,zero:=List.replicate 6 (.int .i64 0),u:=(.pair (.pair (.int .i64) (.pair (.int .i64) (.int .i64))) (.pair (.int .i64) (.pair (.int .i64) (.int .i64))))}),
 (77,{k:=(.struct [(0,2),(1,2),(2,2)]),size:=3,bytes:=24,zero:=List.replicate 3 (.int .i64 0),u:=(.pair (.int .i64) (.pair (.int .i64) (.int .i64)))}),
 (79,{k:=(.struct [(0,2),(1,2),(2,2)]),size:=3,bytes:=24,zero:=List.replicate 3 (.int .i64 0),u:=(.pair (.int .i64) (.pair (.int .i64) (.int .i64)))}),
 (97,{k:=(.sl 115),size:=1,bytes:=24,zero:=[.nils],u:=(.sl (.pair (.pair (.pair (.int .i64) (.pair (.int .i64) (.int .i64))) (.pair (.int .i64) (.pair (.int .i64) (.int .i64)))) (.pair (.pair (.pair (.int .i64) (.pair (.int .i64) (.int .i64))) (.pair (.int .i64) (.pair (.int .i64) (.int .i64)))) (.int .i64))))}),
 (111,{k:=(.struct [(0,2),(1,2),(2,2)]),size:=3,bytes:=24,zero:=List.replicate 3 (.int .i64 0),u:=(.pair (.int .i64) (.pair (.int .i64) (.int .i64)))}),
 (113,{k:=(.struct [(0,111),(3,111)]),size:=6,bytes:=48,zero:=List.replicate 6 (.int .i64 0),u:=(.pair (.pair (.int .i64) (.pair (.int .i64) (.int .i64))) (.pair (.int .i64) (.pair (.int .i64) (.int .i64))))}),
 (115,{k:=(.struct [(0,113),(6,113),(12,2)]),size:=13,bytes:=104,zero:=List.replicate 13 (.int .i64 0),u:=(.pair (.pair (.pair (.int .i64) (.pair (.int .i64) (.int .i64))) (.pair (.int .i64) (.pair (.int .i64) (.int .i64)))) (.pair (.pair (.pair (.int .i64) (.pair (.int .i64) (.int .i64))) (.pair (.int .i64) (.pair (.int .i64) (.int .i64)))) (.int .i64)))}),
 (121,{k:=(.sl 125),size:=1,bytes:=24,zero:=[.nils],u:=(.sl (.pair (.int .i64) (.pair (.int .i64) (.int .i64))))}),
 (125,{k:=(.struct [(0,2),(1,2),(2,2)]),size:=3,bytes:=24,zero:=List.replicate 3 (.int .i64 0),u:=(.pair (.int .i64) (.pair (.int .i64) (.int .i64)))}),
 (138,{k:=(.sl 4),size:=1,bytes:=24,zero:=[.nils],u:=(.sl .bool)}),
 (147,{k:=(.struct [(0,2),(1,69)]),size:=4,bytes:=32,zero:=List.replicate 4 (.int .i64 0),u:=(.pair (.int .i64) (.pair (.int .i64) (.pair (.int .i64) (.int .i64))))}),
 (158,{k:=(.sl 113),size:=1,bytes:=24,zero:=[.nils],u:=(.sl (.pair (.pair (.int .i64) (.pair (.int .i64) (.int .i64))) (.pair (.int .i64) (.pair (.int .i64) (.int .i64)))))}),
 (170,{k:=(.int .u64),size:=1,bytes:=8,zero:=[.int .u64 0],u:=(.int .u64)}),
 (184,{k:=(.sl 3),size:=1,bytes:=24,zero:=[.nils],u:=(.sl (.int .i64))}),
 (188,{k:=(.map 2 41),size:=1,bytes:=8,zero:=[.nilm],u:=.unit}),
 (190,{k:=(.sl 28),size:=1,bytes:=24,zero:=[.nils],u:=(.sl (.sl (.pair (.pair (.int .i64) (.pair (.int .i64) (.int .i64))) (.pair (.int .i64) (.pair (.int .i64) (.int .i64))))))}),
 (195,{k:=(.arr 8 71),size:=48,bytes:=384,zero:=List.replicate 48 (.int .i64 0),u:=(.pair (.pair (.pair (.int .i64) (.pair (.int .i64) (.int .i64))) (.pair (.int .i64) (.pair (.int .i64) (.int .i64)))) (.pair (.pair (.pair (.int .i64) (.pair (.int .i64) (.int .i64))) (.pair (.int .i64) (.pair (.int .i64) (.int .i64)))) (.pair (.pair (.pair (.int .i64) (.pair (.int .i64) (.int .i64))) (.pair (.int .i64) (.pair (.int .i64) (.int .i64)))) (.pair (.pair (.pair (.int .i64) (.pair (.int .i64) (.int .i64))) (.pair (.int .i64) (.pair (.int .i64) (.int .i64)))) (.pair (.pair (.pair (.int .i64) (.pair (.int .i64) (.int .i64))) (.pair (.int .i64) (.pair (.int .i64) (.int .i64)))) (.pair (.pair (.pair (.int .i64) (.pair (.int .i64) (.int .i64))) (.pair (.int .i64) (.pair (.int .i64) (.int .i64)))) (.pair (.pair (.pair (.int .i64) (.pair (.int .i64) (.int .i64))) (.pair (.int .i64) (.pair (.int .i64) (.int .i64)))) (.pair (.pair (.int .i64) (.pair (.int .i64) (.int .i64))) (.pair (.int .i64) (.pair (.int .i64) (.int .i64)))))))))))}),
 (199,{k:=(.struct [(0,2),(1,111)]),size:=4,bytes:=32,zero:=List.replicate 4 (.int .i64 0),u:=(.pair (.int .i64) (.pair (.int .i64) (.pair (.int .i64) (.int .i64))))}),
 (209,{k:=(.sl 111),size:=1,bytes:=24,zero:=[.nils],u:=(.sl (.pair (.int .i64) (.pair (.int .i64) (.int .i64))))}),
 (222,{k:=(.int .u64),size:=1,bytes:=8,zero:=[.int .u64 0],u:=(.int .u64)}),
 (237,{k:=(.int .u64),size:=1,bytes:=8,zero:=[.int .u64 0],u:=(.int .u64)}),
 (244,{k:=(.sl 41),size:=1,bytes:=24,zero:=[.nils],u:=(.sl (.sl (.int .i64)))})]
def Pn :List (((Int×(Int×Int))×(Int×(Int×Int)))):=[((1,(0,0)),(0,(0,0))),((1,(0,0)),((-1),(1,0))),((1,(0,0)),(1,(0,0))),(((-1),(1,0)),(1,(0,0))),((0,(0,0)),(1,(0,0))),((1,((-1),0)),(1,(0,0))),(((-1),(0,0)),(1,(0,0))),(((-1),(0,0)),((-1),(1,0)))]
def gl :List (Nat×B):=[(1000000,.ro 195 (.pair (.pair (.int .i64) (.pair (.int .i64) (.int .i64))) (.pair (.int .i64) (.pair (.int .i64) (.int .i64)))) Pn)]
def aB :Nat->B:=cG gl
theorem abI :cg Tryz.prog tt:=F8 (by kernel_rfl)
theorem base :Ml Tryz.prog tt aB:=⟨Uf (by kernel_rfl),abI,vT (by kernel_rfl)⟩
def fl (k n:Nat)(fns:List af)(cuts:List (Nat×Cut):=[])(joins:List (Nat×Cut):=[])(trunc:List Nat:=[])(tails:List Nat:=[])(touch:List (Nat×List (Nat×List Nat)):=[])(opens:List Nat:=[])(shapes:List (Nat×O):=[])(fJ:List (Nat×List Nat):=[])(whole:Bool:=false)(boxes:List Nat:=[])(takes:List Nat:=[])(melts:List Nat:=[]):Full:=
 {tt:=tt,n:=n,fns:=fns,trunc:=trunc,tails:=tails,touch:=touch,opens:=opens,shapes:=shapes,fJ:=fJ,whole:=whole,boxes:=boxes,takes:=takes,melts:=melts,k:=k,aB:=aB,cuts:=cuts,joins:=joins}
abbrev ee (id:Nat)(a r:List (Nat×VK))(f:Nat->(Go.Proofs.YtlkkaielmdlefaaGreatDoor.R1.Spec.mk a [] []).V->Option (Go.Proofs.YtlkkaielmdlefaaGreatDoor.R1.Spec.mk r [] []).V):af:=⟨id,⟨a,[],[]⟩,⟨r,[],[]⟩,f⟩
abbrev SN (e:af):Prop:=kP Tryz.prog aB e
theorem so {fn:Func}{e:af}(hf:Tryz.prog.funcs[e.id]? =some fn)(cfg:Nat->Full)(hfn:∀k j,pY Tryz.prog aB j (cfg k).fns)(hev:∀k v,e.f k v=zm (cfg k) fn e.ar e.res (e.ar.st aB v) some)(hob:∀k,tC (uV (cfg k) fn):=by exact λk=>Eq.mpr (by kernel_rfl) trivial)(hc:(vd fn&&e.ar.blocks.all (λb=>gB b.1))=true:=by kernel_rfl)
    (h1:∀k,(cfg k).tt=tt/\(cfg k).aB=aB:=by exact λ_=>⟨rfl,rfl⟩):SN e:=Pe base hf hc cfg h1 hfn hob hev
theorem sr {fn:Func}{e:af}(hf:Tryz.prog.funcs[e.id]? =some fn)(cfg:Nat->Full)(hfn:∀k j,(gS Tryz.prog e/\gy Tryz.prog aB j e)->pY Tryz.prog aB j (cfg k).fns)(h0:∀v,e.f 0 v=none)(hev:∀k v,e.f (k+1) v=zm (cfg k) fn e.ar e.res (e.ar.st aB v) some)(hob:∀k,tC (uV (cfg k) fn):=by exact λk=>Eq.mpr (by kernel_rfl) trivial)(hc:(vd fn&&e.ar.blocks.all (λb=>gB b.1))=true:=by kernel_rfl)
    (h1:∀k,(cfg k).tt=tt/\(cfg k).aB=aB/\(cfg k).k=k:=by exact λ_=>⟨rfl,rfl,rfl⟩):SN e:=L3 base hf hc cfg h1 hfn hob h0 hev
abbrev T0 :Type:=Int×Unit
abbrev T1 :Type:=Unit×Unit
abbrev T2 :Type:=Bool×Unit
abbrev T3 :Type:=Bool×Bool
abbrev T4 :Type:=Int×Int×Unit
abbrev T5 :Type:=Int×(Int×Int)
abbrev T6 :Type:=List (T5×T5)
abbrev T7 :Type:=T6×(List T5)
abbrev T8 :Type:=(T5×T5)×Int
abbrev T9 :Type:=(T5×T5)×T8
abbrev T10 :Type:=T1×(T6×Unit)
abbrev T11 :Type:=(List T5)×Unit
abbrev T12 :Type:=(List Int)×Unit
abbrev T13 :Type:=Unit×T12
abbrev T14 :Type:=(Unit×T7)×Int
abbrev T15 :Type:=Bool×(Bool×T3)
abbrev T16 :Type:=Int×(Int×T15)
abbrev T17 :Type:=Unit×Bool×Unit
abbrev T18 :Type:=T6×(List T5)×Unit
abbrev T19 :Type:=Int×Int×Int×Unit
abbrev T20 :Type:=T19×Unit
abbrev T21 :Type:=T19×T19×Unit
abbrev T22 :Type:=Unit×Unit×Bool×Unit
abbrev T23 :Type:=Unit×Unit×Unit×Unit
abbrev T24 :Type:=Int×Int×Int×Int×Unit
abbrev T25 :Type:=Unit×Int×T14×Int×Int×Unit
abbrev T26 :Type:=Unit×Int×Int×T14×Int×Unit
abbrev T27 :Type:=Int×Int×Int×Int×Int×Int×Unit
abbrev T28 :Type:=(T27×Unit)×Unit
abbrev T29 :Type:=Unit×Int×Int×T14×Int×Int×Unit
abbrev T30 :Type:=T6×Int×Unit×Unit×Bool×Int×Unit
abbrev T31 :Type:=Unit×Int×Int×Int×T14×Bool×Bool×Unit
abbrev T32 :Type:=T6×Int×Unit×Unit×Bool×T6×Int×Int×Unit
abbrev u0 :U:=(.pair (.int .i64) (.int .i64))
abbrev u1 :U:=(.pair (.int .i64) u0)
abbrev u2 :U:=(.pair .bool (.pair .bool .bool))
abbrev u3 :U:=(.pair (.pair u1 u1) (.int .i64))
abbrev u4 :U:=(.pair (.pair u1 u1) u3)
abbrev u5 :U:=(.pair (.sl (.pair u1 u1)) (.sl u1))
abbrev u6 :U:=(.pair (.int .i64) (.pair .bool u2))
abbrev u7 :U:=(.pair (.int .i64) u6)
abbrev k0 :List CK:=[(.int .i64),(.int .i64),(.int .i64)]
abbrev k1 :List CK:=[(.int .i64),(.int .i64),(.int .i64),(.int .i64),(.int .i64),(.int .i64)]
abbrev k2 :List CK:=[(.sl (.pair u1 u1)),(.sl u1)]
abbrev k3 :List CK:=[(.int .i64),(.int .i64),(.int .i64),(.int .i64)]
abbrev k4 :List CK:=[(.int .i64)]
abbrev k5 :List CK:=[(.int .i64),(.int .i64),.bool,.bool,.bool,.bool]
abbrev k6 :List CK:=[(.int .u64)]
abbrev k7 :List CK:=[(.int .i64),(.int .i64),(.int .i64),(.int .i64),(.int .i64),(.int .i64),(.int .i64),(.int .i64),(.int .i64),(.int .i64),(.int .i64),(.int .i64),(.int .i64)]
def f26 (k:Nat)(a1:T6)(a2:Int):Option (T0×Unit):=let x2:Bool:=(decide ((wr .i64 (a2-(a1.length:Int)))<0));bif x2 then some (((-1),()),())else some (((wr .i64 (a2-(a1.length:Int))),()),())
def Us :af:=ee 26 [(0,.c (.sl (.pair u1 u1))),(1,.c (.int .i64))] [(0,.c (.int .i64))] λk v=>f26 k v.1.1 v.1.2.1
def ZU (k:Nat):Full:=fl k 12 []
theorem aaT :SN Us:=so Tryz.func26 ZU (λ_ _=>trivial) (λ_ _=>by kernel_rfl)
def f27 (k:Nat)(a1:(List T5))(a2:Int):Option (T0×Unit):=let x2:Bool:=(decide ((wr .i64 (a2-(a1.length:Int)))<0));bif x2 then some (((-1),()),())else some (((wr .i64 (a2-(a1.length:Int))),()),())
def Ut :af:=ee 27 [(0,.c (.sl u1)),(1,.c (.int .i64))] [(0,.c (.int .i64))] λk v=>f27 k v.1.1 v.1.2.1
def ZV (k:Nat):Full:=fl k 12 []
theorem aaU :SN Ut:=so Tryz.func27 ZV (λ_ _=>trivial) (λ_ _=>by kernel_rfl)
def f7 (k:Nat)(a1:T6)(a2:(List T5))(a3:Int):Option (T0×Unit):=(f26 k a1 a3).bind λx3=>bif(decide (x3.1.1<0))then some (((-1),()),())else(f27 k a2 x3.1.1).bind λx4=>bif(decide (x4.1.1<0))then some (((-1),()),())else some ((x4.1.1,()),())
def ef7 :af:=ee 7 [(0,.agg k2),(1,.c (.int .i64))] [(0,.c (.int .i64))] λk v=>f7 k v.1.1.1 v.1.1.2.1 v.1.2.1
def gf7 (k:Nat):Full:=fl k 18 [Us,Ut]
theorem sf7 :SN ef7:=so Tryz.func7 gf7 (λ_ j=>⟨aaT.at j,aaU.at j,trivial⟩) (λ_ _=>by kernel_rfl)
def f79 (k:Nat)(a1 a2 a3:Int):Option (T20×Unit):=
 some (((a1,a2,a3,()),()),())
def U6 :af:=ee 79 [(0,.agg k0)] [(0,.agg k0)] λk v=>f79 k v.1.1.1 v.1.1.2.1 v.1.1.2.2.1
def aaj (k:Nat):Full:=fl k 14 []
theorem abx :SN U6:=so Tryz.func79 aaj (λ_ _=>trivial) (λ_ _=>by kernel_rfl)
def f41 (k:Nat)(a1 a2 a3 a4 a5 a6:Int):Option T28:=
 (f79 k a1 a2 a3).bind λx3=>
 (f79 k a4 a5 a6).bind λx4=>
 some (((x3.1.1.1,x3.1.1.2.1,x3.1.1.2.2.1,x4.1.1.1,x4.1.1.2.1,x4.1.1.2.2.1,()),()),())
def UC :af:=ee 41 [(0,.agg k1)] [(0,.agg k1)] λk v=>f41 k v.1.1.1 v.1.1.2.1 v.1.1.2.2.1 v.1.1.2.2.2.1 v.1.1.2.2.2.2.1 v.1.1.2.2.2.2.2.1
def Z0 (k:Nat):Full:=fl k 13 [U6]
theorem aa3 :SN UC:=so Tryz.func41 Z0 (λ_ j=>⟨abx.at j,trivial⟩) (λ_ _=>by kernel_rfl)
def ru {ρ:Type}(k:Nat):Nat->T6->Int->T6->((T10->Option ρ)×Unit)->Option ρ|0,_,_,_,_=>none|j+1,v12,v13,v14,nx=>bif(decide (v13<(v12.length:Int)))then(aq v12 v13).bind λx15=>(f41 k x15.1.1 x15.1.2.1 x15.1.2.2 x15.2.1 x15.2.2.1 x15.2.2.2).bind λx16=>bif decide (0≤v13)&&decide (v13<(v14.length:Int))then(v14[v13.toNat]?).bind λ_=>let x18:T6:=(v14.set v13.toNat ((x16.1.1.1,(x16.1.1.2.1,x16.1.1.2.2.1)),(x16.1.1.2.2.2.1,(x16.1.1.2.2.2.2.1,x16.1.1.2.2.2.2.2.1))));ru k j v12 (wr .i64 (v13+1)) x18 nx else none else nx.1 (((),()),(v14,()))
def Gs (k:Nat):Cut:=⟨⟨[(0,.c (.sl (.pair u1 u1))),(3,.c (.row 5000000)),(4,.c (.int .i64))],[(5000000,.row 71 (.pair u1 u1))],[]⟩,[(.exit 0,⟨[(3,.c (.row 5000000))],[(5000000,.row 71 (.pair u1 u1))],[]⟩)],λρ j v nx=>ru k j v.1.1 v.1.2.2.1 v.2.1 nx⟩
def f28 (k:Nat)(a1:T6):Option T10:=bif decide ((a1.length:Int)=(a1.length:Int))&&decide (0≤(a1.length:Int))&&decide ((a1.length:Int)*48≤roomy)then let x10:T6:=(List.replicate (a1.length:Int).toNat ((0,(0,0)),(0,(0,0))));ru k k a1 0 x10 (λx11:T10=>some (((),()),(x11.2.1,())),())else none
def Uu :af:=⟨28,⟨[(0,.c (.sl (.pair u1 u1)))],[],[]⟩,⟨[(0,.c (.row 4000000))],[(4000000,.row 71 (.pair u1 u1))],[]⟩,λk v=>f28 k v.1.1⟩
def Vs (k:Nat):Full:=fl k 23 [UC] (cuts:=[(3,(Gs k))])
theorem SP (k:Nat):aF (Vs k) (Gs k) (au Tryz.f28 3):=λρ v nx=>⟨by kernel_rfl,λj=>by kernel_rfl⟩
theorem aaV :SN Uu:=so Tryz.func28 Vs (λ_ j=>⟨aa3.at j,trivial⟩) (λ_ _=>by kernel_rfl) (hob:=λk=>Eq.mpr (by kernel_rfl) (And.intro (SP k) (trivial)))
def f42 (k:Nat)(a1 a2 a3:Int):Option (T20×Unit):=
 some (((a1,a2,a3,()),()),())
def UD :af:=ee 42 [(0,.agg k0)] [(0,.agg k0)] λk v=>f42 k v.1.1.1 v.1.1.2.1 v.1.1.2.2.1
def Z1 (k:Nat):Full:=fl k 14 []
theorem aa4 :SN UD:=so Tryz.func42 Z1 (λ_ _=>trivial) (λ_ _=>by kernel_rfl)
def rv {ρ:Type}(k:Nat):Nat->(List T5)->Int->(List T5)->(((T1×T11)->Option ρ)×Unit)->Option ρ|0,_,_,_,_=>none|j+1,v12,v13,v14,nx=>bif(decide (v13<(v12.length:Int)))then(aq v12 v13).bind λx15=>(f42 k x15.1 x15.2.1 x15.2.2).bind λx16=>bif decide (0≤v13)&&decide (v13<(v14.length:Int))then(v14[v13.toNat]?).bind λ_=>let x18:(List T5):=(v14.set v13.toNat (x16.1.1.1,(x16.1.1.2.1,x16.1.1.2.2.1)));rv k j v12 (wr .i64 (v13+1)) x18 nx else none else nx.1 (((),()),(v14,()))
def Gt (k:Nat):Cut:=⟨⟨[(0,.c (.sl u1)),(3,.c (.row 5000000)),(4,.c (.int .i64))],[(5000000,.row 77 u1)],[]⟩,[(.exit 0,⟨[(3,.c (.row 5000000))],[(5000000,.row 77 u1)],[]⟩)],λρ j v nx=>rv k j v.1.1 v.1.2.2.1 v.2.1 nx⟩
def f29 (k:Nat)(a1:(List T5)):Option (T1×T11):=bif decide ((a1.length:Int)=(a1.length:Int))&&decide (0≤(a1.length:Int))&&decide ((a1.length:Int)*24≤roomy)then let x10:(List T5):=(List.replicate (a1.length:Int).toNat (0,(0,0)));rv k k a1 0 x10 (λx11:(T1×T11)=>some (((),()),(x11.2.1,())),())else none
def Uv :af:=⟨29,⟨[(0,.c (.sl u1))],[],[]⟩,⟨[(0,.c (.row 4000000))],[(4000000,.row 77 u1)],[]⟩,λk v=>f29 k v.1.1⟩
def Vt (k:Nat):Full:=fl k 23 [UD] (cuts:=[(3,(Gt k))])
theorem SQ (k:Nat):aF (Vt k) (Gt k) (au Tryz.f29 3):=λρ v nx=>⟨by kernel_rfl,λj=>by kernel_rfl⟩
theorem aaW :SN Uv:=so Tryz.func29 Vt (λ_ j=>⟨aa4.at j,trivial⟩) (λ_ _=>by kernel_rfl) (hob:=λk=>Eq.mpr (by kernel_rfl) (And.intro (SQ k) (trivial)))
def f9 (k:Nat)(a1:T6)(a2:(List T5)):Option (((Unit×Unit×Unit)×Unit)×T18):=
 (f28 k a1).bind λx3=>
 (f29 k a2).bind λx4=>
 some ((((),(),()),()),(x3.2.1,x4.2.1,()))
def ef9 :af:=⟨9,⟨[(0,.agg k2)],[],[]⟩,⟨[(0,.agg [(.row 4000000),(.row 4000001)])],[(4000000,.row 71 (.pair u1 u1)),(4000001,.row 77 u1)],[]⟩,λk v=>f9 k v.1.1.1 v.1.1.2.1⟩
def gf9 (k:Nat):Full:=fl k 13 [Uu,Uv]
theorem sf9 :SN ef9:=so Tryz.func9 gf9 (λ_ j=>⟨aaV.at j,aaW.at j,trivial⟩) (λ_ _=>by kernel_rfl)
def f45 (k:Nat)(a1 a2 a3:Int):Option (T2×Unit):=bif(decide (a1≥a2))then some (((decide (a1≤a3)),()),())else some ((false,()),())
def wQ :af:=ee 45 [(0,.c (.int .i64)),(1,.c (.int .i64)),(2,.c (.int .i64))] [(0,.c .bool)] λk v=>f45 k v.1.1 v.1.2.1 v.1.2.2.1
def Z5 (k:Nat):Full:=fl k 15 []
theorem zK :SN wQ:=so Tryz.func45 Z5 (λ_ _=>trivial) (λ_ _=>by kernel_rfl)
def f176 (k:Nat)(a1 a2 a3:Int):Option (T2×Unit):=(f45 k a1 (-131072) 131072).bind λx10=>bif(!x10.1.1)then some ((false,()),())else(f45 k a2 (-131072) 131072).bind λx11=>bif(!x11.1.1)then some ((false,()),())else(f45 k a3 0 10).bind λx12=>bif(!x12.1.1)then some ((false,()),())else bif(a3==0)then some ((true,()),())else bif((a1.tmod 2) !=0)then some ((true,()),())else some ((((a2.tmod 2) !=0),()),())
def Qa :af:=ee 176 [(0,.agg k0)] [(0,.c .bool)] λk v=>f176 k v.1.1.1 v.1.1.2.1 v.1.1.2.2.1
def XC (k:Nat):Full:=fl k 34 [wQ]
theorem YY :SN Qa:=so Tryz.func176 XC (λ_ j=>⟨zK.at j,trivial⟩) (λ_ _=>by kernel_rfl)
def f122 (k:Nat)(a1 a2 a3 a4 a5 a6:Int):Option (T2×Unit):=(f176 k a1 a2 a3).bind λx3=>bif x3.1.1 then(f176 k a4 a5 a6).bind λx4=>some ((x4.1.1,()),())else some ((false,()),())
def Ie :af:=ee 122 [(0,.agg k1)] [(0,.c .bool)] λk v=>f122 k v.1.1.1 v.1.1.2.1 v.1.1.2.2.1 v.1.1.2.2.2.1 v.1.1.2.2.2.2.1 v.1.1.2.2.2.2.2.1
def W6 (k:Nat):Full:=fl k 11 [Qa]
theorem RP :SN Ie:=so Tryz.func122 W6 (λ_ j=>⟨YY.at j,trivial⟩) (λ_ _=>by kernel_rfl)
def f185 (k:Nat)(a1 a2 a3:Int):Option (T20×Unit):=
 some (((a1,a2,a3,()),()),())
def Iv :af:=ee 185 [(0,.agg k0)] [(0,.agg k0)] λk v=>f185 k v.1.1.1 v.1.1.2.1 v.1.1.2.2.1
def XL (k:Nat):Full:=fl k 10 []
theorem R5 :SN Iv:=so Tryz.func185 XL (λ_ _=>trivial) (λ_ _=>by kernel_rfl)
def f221 (k:Nat)(a1 a2 a3:Int):Option (T20×Unit):=
 some ((((wr .i64 (0-a1)),(wr .i64 (0-a2)),a3,()),()),())
def QB :af:=ee 221 [(0,.agg k0)] [(0,.agg k0)] λk v=>f221 k v.1.1.1 v.1.1.2.1 v.1.1.2.2.1
def X4 (k:Nat):Full:=fl k 12 []
theorem Zp :SN QB:=so Tryz.func221 X4 (λ_ _=>trivial) (λ_ _=>by kernel_rfl)
def gU {ρ:Type}(k:Nat):Nat->Int->Int->Int->Int->Int->Int->((((Unit×Unit×Unit)×T21)->Option ρ)×Unit)->Option ρ|0,_,_,_,_,_,_,_=>none|j+1,v18,v19,v20,v21,v22,v23,nx=>bif(decide (v20>0))then bif((v18.tmod 2)==0)then bif((v19.tmod 2)==0)then gU k j (wr .i64 (v18.tdiv 2)) (wr .i64 (v19.tdiv 2)) (wr .i64 (v20-1)) v21 v22 v23 nx else nx.1 (((),(),()),((v18,v19,v20,()),(v21,v22,v23,()),()))else nx.1 (((),(),()),((v18,v19,v20,()),(v21,v22,v23,()),()))else nx.1 (((),(),()),((v18,v19,v20,()),(v21,v22,v23,()),()))
def DQ (k:Nat):Cut:=⟨⟨[(1,.c (.box 5000000)),(2,.c (.box 5000001))],[(5000000,.box 111 k0),(5000001,.box 111 k0)],[]⟩,[(.exit 0,⟨[(1,.c (.box 5000000)),(2,.c (.box 5000001))],[(5000000,.box 111 k0),(5000001,.box 111 k0)],[]⟩)],λρ j v nx=>gU k j v.2.1.1 v.2.1.2.1 v.2.1.2.2.1 v.2.2.1.1 v.2.2.1.2.1 v.2.2.1.2.2.1 nx⟩
def rj {ρ:Type}(k:Nat)(v24 v25 v26 v27 v28 v29:Int)(nx:(((T1×T20)->Option ρ)×Unit)):Option ρ:=
 gU k k v24 v25 v26 v27 v28 v29
  (λx30:((Unit×Unit×Unit)×T21)=>nx.1 (((),()),((x30.2.1.1,x30.2.1.2.1,x30.2.1.2.2.1,()),())),
  ())
def DP :Cut:=⟨⟨[(1,.c (.box 5000000)),(2,.c (.box 5000001))],[(5000000,.box 111 k0),(5000001,.box 111 k0)],[]⟩,[(.ret,⟨[(2,.c (.box 5000000))],[(5000000,.box 111 k0)],[]⟩)],λρ k v nx=>rj k v.2.1.1 v.2.1.2.1 v.2.1.2.2.1 v.2.2.1.1 v.2.2.1.2.1 v.2.2.1.2.2.1 nx⟩
def f238 (k:Nat)(a1 a2 a3:Int):Option (T20×Unit):=bif(a1==0)then bif(a2==0)then some (((0,0,0,()),()),())else rj k a1 a2 a3 0 0 0 (λx16:(T1×T20)=>some (((x16.2.1.1,x16.2.1.2.1,x16.2.1.2.2.1,()),()),()),())else rj k a1 a2 a3 0 0 0 (λx17:(T1×T20)=>some (((x17.2.1.1,x17.2.1.2.1,x17.2.1.2.2.1,()),()),()),())
def Cc :af:=ee 238 [(0,.agg k0)] [(0,.agg k0)] λk v=>f238 k v.1.1.1 v.1.1.2.1 v.1.1.2.2.1
def I9 (k:Nat):Full:=fl k 40 [] (cuts:=[(3,(DQ k))]) (joins:=[(3,DP)])
theorem Oz (k:Nat):aF (I9 k) (DQ k) (au Tryz.f238 3):=λρ v nx=>⟨by kernel_rfl,λj=>by kernel_rfl⟩
theorem Oy (k:Nat):dh (I9 k) DP (cY Tryz.f238 3):=λρ v nx=>by kernel_rfl
theorem JQ :SN Cc:=so Tryz.func238 I9 (λ_ _=>trivial) (λ_ _=>by kernel_rfl) (hob:=λk=>Eq.mpr (by kernel_rfl) (And.intro (Oz k) (And.intro (Oy k) (trivial))))
def oM {ρ:Type}(k:Nat):Nat->Int->Int->Int->Int->Int->Int->Int->Int->Int->(((T23×(T19×T19×T19×Unit))->Option ρ)×Unit)->Option ρ|0,_,_,_,_,_,_,_,_,_,_=>none|j+1,v29,v30,v31,v32,v33,v34,v35,v36,v37,nx=>bif(decide (v31<v34))then oM k j (wr .i64 (v29*2)) (wr .i64 (v30*2)) (wr .i64 (v31+1)) v32 v33 v34 v35 v36 v37 nx else nx.1 (((),(),(),()),((v29,v30,v31,()),(v32,v33,v34,()),(v35,v36,v37,()),()))
def DG (k:Nat):Cut:=⟨⟨[(2,.c (.box 5000000)),(3,.c (.box 5000001)),(4,.c (.box 5000002))],[(5000000,.box 111 k0),(5000001,.box 111 k0),(5000002,.box 111 k0)],[]⟩,[(.exit 0,⟨[(2,.c (.box 5000000)),(3,.c (.box 5000001)),(4,.c (.box 5000002))],[(5000000,.box 111 k0),(5000001,.box 111 k0),(5000002,.box 111 k0)],[]⟩)],λρ j v nx=>oM k j v.2.1.1 v.2.1.2.1 v.2.1.2.2.1 v.2.2.1.1 v.2.2.1.2.1 v.2.2.1.2.2.1 v.2.2.2.1.1 v.2.2.2.1.2.1 v.2.2.2.1.2.2.1 nx⟩
def oN {ρ:Type}(k:Nat):Nat->Int->Int->Int->Int->Int->Int->Int->Int->Int->(((T23×(T19×T19×T19×Unit))->Option ρ)×Unit)->Option ρ|0,_,_,_,_,_,_,_,_,_,_=>none|j+1,v38,v39,v40,v41,v42,v43,v44,v45,v46,nx=>bif(decide (v43<v40))then oN k j v38 v39 v40 (wr .i64 (v41*2)) (wr .i64 (v42*2)) (wr .i64 (v43+1)) v44 v45 v46 nx else nx.1 (((),(),(),()),((v38,v39,v40,()),(v41,v42,v43,()),(v44,v45,v46,()),()))
def DH (k:Nat):Cut:=⟨⟨[(2,.c (.box 5000000)),(3,.c (.box 5000001)),(4,.c (.box 5000002))],[(5000000,.box 111 k0),(5000001,.box 111 k0),(5000002,.box 111 k0)],[]⟩,[(.exit 2,⟨[(2,.c (.box 5000000)),(3,.c (.box 5000001)),(4,.c (.box 5000002))],[(5000000,.box 111 k0),(5000001,.box 111 k0),(5000002,.box 111 k0)],[]⟩)],λρ j v nx=>oN k j v.2.1.1 v.2.1.2.1 v.2.1.2.2.1 v.2.2.1.1 v.2.2.1.2.1 v.2.2.1.2.2.1 v.2.2.2.1.1 v.2.2.2.1.2.1 v.2.2.2.1.2.2.1 nx⟩
def f218 (k:Nat)(a1 a2 a3 a4 a5 a6:Int):Option (T20×Unit):=
 oM k k a1 a2 a3 a4 a5 a6 0 0 0
  (λx25:(T23×(T19×T19×T19×Unit))=>
   oN k k x25.2.1.1 x25.2.1.2.1 x25.2.1.2.2.1 x25.2.2.1.1 x25.2.2.1.2.1 x25.2.2.1.2.2.1 x25.2.2.2.1.1 x25.2.2.2.1.2.1 x25.2.2.2.1.2.2.1
    (λx27:(T23×(T19×T19×T19×Unit))=>
     (f238 k (wr .i64 (x27.2.1.1+x27.2.2.1.1)) (wr .i64 (x27.2.1.2.1+x27.2.2.1.2.1)) x27.2.1.2.2.1).bind λx28=>
     some (((x28.1.1.1,x28.1.1.2.1,x28.1.1.2.2.1,()),()),()),
    ()),
  ())
def IB :af:=ee 218 [(0,.agg k0),(1,.agg k0)] [(0,.agg k0)] λk v=>f218 k v.1.1.1 v.1.1.2.1 v.1.1.2.2.1 v.1.2.1.1 v.1.2.1.2.1 v.1.2.1.2.2.1
def I6 (k:Nat):Full:=fl k 53 [Cc] (cuts:=[(1,(DG k)),(5,(DH k))])
theorem Om (k:Nat):aF (I6 k) (DG k) (au Tryz.f218 1):=λρ v nx=>⟨by kernel_rfl,λj=>by kernel_rfl⟩
theorem On (k:Nat):aF (I6 k) (DH k) (au Tryz.f218 5):=λρ v nx=>⟨by kernel_rfl,λj=>by kernel_rfl⟩
theorem Sb :SN IB:=so Tryz.func218 I6 (λ_ j=>⟨JQ.at j,trivial⟩) (λ_ _=>by kernel_rfl) (hob:=λk=>Eq.mpr (by kernel_rfl) (And.intro (Om k) (And.intro (On k) (trivial))))
def f184 (k:Nat)(a1 a2 a3 a4 a5 a6:Int):Option (T20×Unit):=
 (f221 k a4 a5 a6).bind λx3=>
 (f218 k a1 a2 a3 x3.1.1.1 x3.1.1.2.1 x3.1.1.2.2.1).bind λx4=>
 some (((x4.1.1.1,x4.1.1.2.1,x4.1.1.2.2.1,()),()),())
def nW :af:=ee 184 [(0,.agg k0),(1,.agg k0)] [(0,.agg k0)] λk v=>f184 k v.1.1.1 v.1.1.2.1 v.1.1.2.2.1 v.1.2.1.1 v.1.2.1.2.1 v.1.2.1.2.2.1
def XK (k:Nat):Full:=fl k 9 [QB,IB] (touch:=[(1,[(4,[4])])])
theorem qs :SN nW:=so Tryz.func184 XK (λ_ j=>⟨Zp.at j,Sb.at j,trivial⟩) (λ_ _=>by kernel_rfl)
def sF {ρ:Type}(k:Nat)(v24 v25 v26:Int)(nx:(((T4×Unit)->Option ρ)×Unit)):Option ρ:=
 nx.1 (((wr .u64 ((wr .u64 (v24*v24))+v26)),v25,()),())
def Ax :Cut:=⟨⟨[(6,.c (.int .u64)),(8,.c (.int .u64)),(9,.c (.int .u64))],[],[]⟩,[(.ret,⟨[(2,.c (.int .u64)),(3,.c (.int .u64))],[],[]⟩)],λρ k v nx=>sF k v.1.1 v.1.2.1 v.1.2.2.1 nx⟩
def rk {ρ:Type}(k:Nat)(v17:Int)(nx:(((T4×Unit)->Option ρ)×Unit)):Option ρ:=let x18:Int:=(wr .u64 ((wr .u64 (2*(fc .u64 v17 4294967295)))*(fy .u64 v17 32)));let x19:Int:=(wr .u64 ((fc .u64 v17 4294967295)*(fc .u64 v17 4294967295)));let x20:Int:=(wr .u64 ((fc .u64 v17 4294967295)*(fc .u64 v17 4294967295)));let x21:Bool:=(decide ((wr .u64 (x19+(fe .u64 x18 32)))<x20));bif x21 then sF k (fy .u64 v17 32) (wr .u64 (x19+(fe .u64 x18 32))) (wr .u64 ((fy .u64 x18 32)+1)) (λx22:(T4×Unit)=>nx.1 ((x22.1.1,x22.1.2.1,()),()),())else sF k (fy .u64 v17 32) (wr .u64 (x19+(fe .u64 x18 32))) (fy .u64 x18 32) (λx23:(T4×Unit)=>nx.1 ((x23.1.1,x23.1.2.1,()),()),())
def DR :Cut:=⟨⟨[(4,.c (.int .u64))],[],[]⟩,[(.ret,⟨[(2,.c (.int .u64)),(3,.c (.int .u64))],[],[]⟩)],λρ k v nx=>rk k v.1.1 nx⟩
def f239 (k:Nat)(a1:Int):Option (T4×Unit):=bif(decide (a1<0))then rk k (wr .u64 (wr .i64 (0-a1))) (λx15:(T4×Unit)=>some ((x15.1.1,x15.1.2.1,()),()),())else rk k (wr .u64 a1) (λx16:(T4×Unit)=>some ((x16.1.1,x16.1.2.1,()),()),())
def QQ :af:=ee 239 [(0,.c (.int .i64))] [(0,.c (.int .u64)),(1,.c (.int .u64))] λk v=>f239 k v.1.1
def Ja (k:Nat):Full:=fl k 46 [] (joins:=[(11,Ax),(4,DR)])
theorem Lv (k:Nat):dh (Ja k) Ax (cY Tryz.f239 11):=λρ v nx=>by kernel_rfl
theorem OA (k:Nat):dh (Ja k) DR (cY Tryz.f239 4):=λρ v nx=>by kernel_rfl
theorem ZE :SN QQ:=so Tryz.func239 Ja (λ_ _=>trivial) (λ_ _=>by kernel_rfl) (hob:=λk=>Eq.mpr (by kernel_rfl) (And.intro (Lv k) (And.intro (OA k) (trivial))))
def f220 (k:Nat)(a1 a2:Int):Option (T2×Unit):=(f239 k a1).bind λx5=>(f239 k a2).bind λx6=>let x7:Int:=(wr .u64 ((wr .u64 (x6.1.1*2))+(fy .u64 x6.1.2.1 63)));bif(decide (x5.1.1<x7))then some ((true,()),())else bif(x5.1.1==x7)then let x8:Bool:=(decide (x5.1.2.1<(wr .u64 (x6.1.2.1*2))));some ((x8,()),())else some ((false,()),())
def QA :af:=ee 220 [(0,.c (.int .i64)),(1,.c (.int .i64))] [(0,.c .bool)] λk v=>f220 k v.1.1 v.1.2.1
def X3 (k:Nat):Full:=fl k 39 [QQ]
theorem Zo :SN QA:=so Tryz.func220 X3 (λ_ j=>⟨ZE.at j,trivial⟩) (λ_ _=>by kernel_rfl)
def f183 (k:Nat)(a1 a2 a3:Int):Option (T0×Unit):=bif(a1==0)then bif(a2==0)then some ((0,()),())else bif(decide (a1≥0))then bif(decide (a2≥0))then some ((1,()),())else bif(decide (a1≤0))then bif(decide (a2≤0))then some (((-1),()),())else(f220 k a1 a2).bind λx9=>bif(x9.1.1==(decide (a2>0)))then some ((1,()),())else some (((-1),()),())else(f220 k a1 a2).bind λx10=>bif(x10.1.1==(decide (a2>0)))then some ((1,()),())else some (((-1),()),())else bif(decide (a1≤0))then bif(decide (a2≤0))then some (((-1),()),())else(f220 k a1 a2).bind λx11=>bif(x11.1.1==(decide (a2>0)))then some ((1,()),())else some (((-1),()),())else(f220 k a1 a2).bind λx12=>bif(x12.1.1==(decide (a2>0)))then some ((1,()),())else some (((-1),()),())else bif(decide (a1≥0))then bif(decide (a2≥0))then some ((1,()),())else bif(decide (a1≤0))then bif(decide (a2≤0))then some (((-1),()),())else(f220 k a1 a2).bind λx13=>bif(x13.1.1==(decide (a2>0)))then some ((1,()),())else some (((-1),()),())else(f220 k a1 a2).bind λx14=>bif(x14.1.1==(decide (a2>0)))then some ((1,()),())else some (((-1),()),())else bif(decide (a1≤0))then bif(decide (a2≤0))then some (((-1),()),())else(f220 k a1 a2).bind λx15=>bif(x15.1.1==(decide (a2>0)))then some ((1,()),())else some (((-1),()),())else(f220 k a1 a2).bind λx16=>bif(x16.1.1==(decide (a2>0)))then some ((1,()),())else some (((-1),()),())
def nV :af:=ee 183 [(0,.agg k0)] [(0,.c (.int .i64))] λk v=>f183 k v.1.1.1 v.1.1.2.1 v.1.1.2.2.1
def XJ (k:Nat):Full:=fl k 40 [QA]
theorem qq :SN nV:=so Tryz.func183 XJ (λ_ j=>⟨Zo.at j,trivial⟩) (λ_ _=>by kernel_rfl)
def f177 (k:Nat)(a1 a2 a3 a4 a5 a6:Int):Option (T0×Unit):=
 (f185 k a1 a2 a3).bind λx5=>
 (f185 k a4 a5 a6).bind λx6=>
 (f184 k x5.1.1.1 x5.1.1.2.1 x5.1.1.2.2.1 x6.1.1.1 x6.1.1.2.1 x6.1.1.2.2.1).bind λx7=>
 (f183 k x7.1.1.1 x7.1.1.2.1 x7.1.1.2.2.1).bind λx8=>
 some ((x8.1.1,()),())
def Qb :af:=ee 177 [(0,.agg k0),(1,.agg k0)] [(0,.c (.int .i64))] λk v=>f177 k v.1.1.1 v.1.1.2.1 v.1.1.2.2.1 v.1.2.1.1 v.1.2.1.2.1 v.1.2.1.2.2.1
def XD (k:Nat):Full:=fl k 11 [Iv,nW,nV]
theorem YZ :SN Qb:=so Tryz.func177 XD (λ_ j=>⟨R5.at j,qs.at j,qq.at j,trivial⟩) (λ_ _=>by kernel_rfl)
def f123 (k:Nat)(a1 a2 a3 a4 a5 a6 a7 a8 a9 a10 a11 a12:Int):Option (T0×Unit):=(f177 k a1 a2 a3 a7 a8 a9).bind λx3=>bif(x3.1.1 !=0)then some ((x3.1.1,()),())else(f177 k a4 a5 a6 a10 a11 a12).bind λx4=>some ((x4.1.1,()),())
def B0 :af:=ee 123 [(0,.agg k1),(1,.agg k1)] [(0,.c (.int .i64))] λk v=>f123 k v.1.1.1 v.1.1.2.1 v.1.1.2.2.1 v.1.1.2.2.2.1 v.1.1.2.2.2.2.1 v.1.1.2.2.2.2.2.1 v.1.2.1.1 v.1.2.1.2.1 v.1.2.1.2.2.1 v.1.2.1.2.2.2.1 v.1.2.1.2.2.2.2.1 v.1.2.1.2.2.2.2.2.1
def W7 (k:Nat):Full:=fl k 19 [Qb]
theorem JH :SN B0:=so Tryz.func123 W7 (λ_ j=>⟨YZ.at j,trivial⟩) (λ_ _=>by kernel_rfl)
def pj {ρ:Type}(k:Nat):Nat->T7->Int->Int->((((T7×Int×Unit)×Unit)->Option ρ)×((T2×Unit)->Option ρ)×Unit)->Option ρ|0,_,_,_,_=>none|j+1,v34,v35,v36,nx=>bif(decide (v36<(v34.1.length:Int)))then(aq v34.1 v36).bind λx37=>(f122 k x37.1.1 x37.1.2.1 x37.1.2.2 x37.2.1 x37.2.2.1 x37.2.2.2).bind λx38=>bif(!x38.1.1)then nx.2.1 ((false,()),())else bif(decide (v36>0))then(aq v34.1 (wr .i64 (v36-1))).bind λx39=>(aq v34.1 v36).bind λx40=>(f123 k x39.1.1 x39.1.2.1 x39.1.2.2 x39.2.1 x39.2.2.1 x39.2.2.2 x40.1.1 x40.1.2.1 x40.1.2.2 x40.2.1 x40.2.2.1 x40.2.2.2).bind λx41=>bif(decide (x41.1.1≥0))then nx.2.1 ((false,()),())else pj k j v34 v35 (wr .i64 (v36+1)) nx else pj k j v34 v35 (wr .i64 (v36+1)) nx else nx.1 ((v34,v35,()),())
def GN (k:Nat):Cut:=⟨⟨[(0,.c (.dp u5)),(3,.c (.int .i64)),(4,.c (.int .i64))],[],[]⟩,[(.exit 0,⟨[(0,.c (.dp u5)),(3,.c (.int .i64))],[],[]⟩),(.ret,⟨[(2,.c .bool)],[],[]⟩)],λρ j v nx=>pj k j v.1.1 v.1.2.1 v.1.2.2.1 nx⟩
def js {ρ:Type}(k:Nat):Nat->T7->Int->Int->((T1->Option ρ)×((T2×Unit)->Option ρ)×Unit)->Option ρ|0,_,_,_,_=>none|j+1,v42,v43,v44,nx=>bif(decide (v44<(v42.2.length:Int)))then(aq v42.2 v44).bind λx45=>(f45 k x45.1 0 (wr .i64 (v43-1))).bind λx49=>bif(!x49.1.1)then nx.2.1 ((false,()),())else(f45 k x45.2.1 (wr .i64 (x45.1+1)) (wr .i64 (v43-1))).bind λx50=>bif(!x50.1.1)then nx.2.1 ((false,()),())else(f45 k x45.2.2 1 4).bind λx51=>bif(!x51.1.1)then nx.2.1 ((false,()),())else bif(decide (v44>0))then(aq v42.2 (wr .i64 (v44-1))).bind λx52=>bif(decide (x52.1>x45.1))then nx.2.1 ((false,()),())else(aq v42.2 (wr .i64 (v44-1))).bind λx53=>bif(x53.1==x45.1)then(aq v42.2 (wr .i64 (v44-1))).bind λx54=>bif(decide (x54.2.1≥x45.2.1))then nx.2.1 ((false,()),())else js k j v42 v43 (wr .i64 (v44+1)) nx else js k j v42 v43 (wr .i64 (v44+1)) nx else js k j v42 v43 (wr .i64 (v44+1)) nx else nx.1 ((),())
def DV (k:Nat):Cut:=⟨⟨[(0,.c (.dp u5)),(3,.c (.int .i64)),(5,.c (.int .i64))],[],[]⟩,[(.exit 2,⟨[],[],[]⟩),(.ret,⟨[(2,.c .bool)],[],[]⟩)],λρ j v nx=>js k j v.1.1 v.1.2.1 v.1.2.2.1 nx⟩
def f68 (k:Nat)(a1:T7):Option (T2×Unit):=bif(decide ((a1.1.length:Int)>40))then some ((false,()),())else bif(decide ((a1.2.length:Int)>70))then some ((false,()),())else pj k k a1 (a1.1.length:Int) 0 (λx30:((T7×Int×Unit)×Unit)=>js k k x30.1.1 x30.1.2.1 0 (λx31:T1=>some ((true,()),()),λx32:(T2×Unit)=>some ((x32.1.1,()),()),()),λx33:(T2×Unit)=>some ((x33.1.1,()),()),())
def UU :af:=ee 68 [(0,.c (.dp u5))] [(0,.c .bool)] λk v=>f68 k v.1.1
def M2 (k:Nat):Full:=fl k 146 [Ie,B0,wQ] (cuts:=[(5,(GN k)),(10,(DV k))])
theorem Td (k:Nat):aF (M2 k) (GN k) (au Tryz.f68 5):=λρ v nx=>⟨by kernel_rfl,λj=>by kernel_rfl⟩
theorem OE (k:Nat):aF (M2 k) (DV k) (au Tryz.f68 10):=λρ v nx=>⟨by kernel_rfl,λj=>by kernel_rfl⟩
theorem abl :SN UU:=so Tryz.func68 M2 (λ_ j=>⟨RP.at j,JH.at j,zK.at j,trivial⟩) (λ_ _=>by kernel_rfl) (hob:=λk=>Eq.mpr (by kernel_rfl) (And.intro (Td k) (And.intro (OE k) (trivial))))
def f126 (k:Nat)(a1 a2 a3 a4 a5 a6:Int):Option T28:=
 (f185 k a1 a2 a3).bind λx3=>
 (f185 k a4 a5 a6).bind λx4=>
 some (((x3.1.1.1,x3.1.1.2.1,x3.1.1.2.2.1,x4.1.1.1,x4.1.1.2.1,x4.1.1.2.2.1,()),()),())
def sB :af:=ee 126 [(0,.agg k1)] [(0,.agg k1)] λk v=>f126 k v.1.1.1 v.1.1.2.1 v.1.1.2.2.1 v.1.1.2.2.2.1 v.1.1.2.2.2.2.1 v.1.1.2.2.2.2.2.1
def Xa (k:Nat):Full:=fl k 10 [Iv] (touch:=[(1,[(7,[2])])])
theorem vA :SN sB:=so Tryz.func126 Xa (λ_ j=>⟨R5.at j,trivial⟩) (λ_ _=>by kernel_rfl)
def f128 (k:Nat)(a1 a2 a3 a4 a5 a6 a7 a8 a9 a10 a11 a12:Int):Option T28:=
 (f184 k a1 a2 a3 a7 a8 a9).bind λx3=>
 (f184 k a4 a5 a6 a10 a11 a12).bind λx4=>
 some (((x3.1.1.1,x3.1.1.2.1,x3.1.1.2.2.1,x4.1.1.1,x4.1.1.2.1,x4.1.1.2.2.1,()),()),())
def qb :af:=ee 128 [(0,.agg k1),(1,.agg k1)] [(0,.agg k1)] λk v=>f128 k v.1.1.1 v.1.1.2.1 v.1.1.2.2.1 v.1.1.2.2.2.1 v.1.1.2.2.2.2.1 v.1.1.2.2.2.2.2.1 v.1.2.1.1 v.1.2.1.2.1 v.1.2.1.2.2.1 v.1.2.1.2.2.2.1 v.1.2.1.2.2.2.2.1 v.1.2.1.2.2.2.2.2.1
def Xb (k:Nat):Full:=fl k 16 [nW] (touch:=[(1,[(11,[4])])])
theorem tf :SN qb:=so Tryz.func128 Xb (λ_ j=>⟨qs.at j,trivial⟩) (λ_ _=>by kernel_rfl)
def f131 (k:Nat)(a1:Int):Option (T0×Unit):=
 some ((((wr .i64 ((a1.tmod 16)+16)).tmod 16),()),())
def xP :af:=ee 131 [(0,.c (.int .i64))] [(0,.c (.int .i64))] λk v=>f131 k v.1.1
def Xc (k:Nat):Full:=fl k 7 []
theorem Ci :SN xP:=so Tryz.func131 Xc (λ_ _=>trivial) (λ_ _=>by kernel_rfl)
def f217 (k:Nat)(a1:Int):Option T28:=(f131 k a1).bind λx3=>bif decide (0≤(x3.1.1.tmod 8))&&decide ((x3.1.1.tmod 8)<([((1,(0,0)),(0,(0,0))),((1,(0,0)),((-1),(1,0))),((1,(0,0)),(1,(0,0))),(((-1),(1,0)),(1,(0,0))),((0,(0,0)),(1,(0,0))),((1,((-1),0)),(1,(0,0))),(((-1),(0,0)),(1,(0,0))),(((-1),(0,0)),((-1),(1,0)))].length:Int))then([((1,(0,0)),(0,(0,0))),((1,(0,0)),((-1),(1,0))),((1,(0,0)),(1,(0,0))),(((-1),(1,0)),(1,(0,0))),((0,(0,0)),(1,(0,0))),((1,((-1),0)),(1,(0,0))),(((-1),(0,0)),(1,(0,0))),(((-1),(0,0)),((-1),(1,0)))][(x3.1.1.tmod 8).toNat]?).bind λx4=>bif(decide (x3.1.1≥8))then some ((((wr .i64 (0-x4.1.1)),(wr .i64 (0-x4.1.2.1)),0,(wr .i64 (0-x4.2.1)),(wr .i64 (0-x4.2.2.1)),0,()),()),())else some (((x4.1.1,x4.1.2.1,x4.1.2.2,x4.2.1,x4.2.2.1,x4.2.2.2,()),()),())else none
def IA :af:=ee 217 [(0,.c (.int .i64))] [(0,.agg k1)] λk v=>f217 k v.1.1
def XZ (k:Nat):Full:=fl k 57 [xP]
theorem Sa :SN IA:=so Tryz.func217 XZ (λ_ j=>⟨Ci.at j,trivial⟩) (λ_ _=>by kernel_rfl)
def f219 (k:Nat)(a1 a2 a3 a4 a5 a6:Int):Option (T20×Unit):=
 let x4:Int:=(wr .i64 ((wr .i64 (a1*a4))+(wr .i64 ((wr .i64 (2*a2))*a5))))
 let x5:Int:=(wr .i64 ((wr .i64 (a1*a5))+(wr .i64 (a2*a4))))
 (f238 k x4 x5 (wr .i64 (a3+a6))).bind λx6=>
 some (((x6.1.1.1,x6.1.1.2.1,x6.1.1.2.2.1,()),()),())
def IC :af:=ee 219 [(0,.agg k0),(1,.agg k0)] [(0,.agg k0)] λk v=>f219 k v.1.1.1 v.1.1.2.1 v.1.1.2.2.1 v.1.2.1.1 v.1.2.1.2.1 v.1.2.1.2.2.1
def X2 (k:Nat):Full:=fl k 35 [Cc]
theorem Sc :SN IC:=so Tryz.func219 X2 (λ_ j=>⟨JQ.at j,trivial⟩) (λ_ _=>by kernel_rfl)
def f181 (k:Nat)(a1 a2 a3 a4 a5 a6 a7:Int):Option (T20×Unit):=
 (f217 k a1).bind λx6=>
 (f126 k x6.1.1.1 x6.1.1.2.1 x6.1.1.2.2.1 x6.1.1.2.2.2.1 x6.1.1.2.2.2.2.1 x6.1.1.2.2.2.2.2.1).bind λx7=>
 (f219 k x7.1.1.1 x7.1.1.2.1 x7.1.1.2.2.1 a2 a3 a4).bind λx8=>
 (f219 k x7.1.1.2.2.2.1 x7.1.1.2.2.2.2.1 x7.1.1.2.2.2.2.2.1 a5 a6 a7).bind λx9=>
 (f218 k x8.1.1.1 x8.1.1.2.1 x8.1.1.2.2.1 x9.1.1.1 x9.1.1.2.1 x9.1.1.2.2.1).bind λx10=>
 some (((x10.1.1.1,x10.1.1.2.1,x10.1.1.2.2.1,()),()),())
def sD :af:=ee 181 [(0,.c (.int .i64)),(1,.agg k1)] [(0,.agg k0)] λk v=>f181 k v.1.1 v.1.2.1.1 v.1.2.1.2.1 v.1.2.1.2.2.1 v.1.2.1.2.2.2.1 v.1.2.1.2.2.2.2.1 v.1.2.1.2.2.2.2.2.1
def XH (k:Nat):Full:=fl k 20 [IA,sB,IC,IB] (touch:=[(2,[(11,[4])])])
theorem vC :SN sD:=so Tryz.func181 XH (λ_ j=>⟨Sa.at j,vA.at j,Sc.at j,Sb.at j,trivial⟩) (λ_ _=>by kernel_rfl)
def f186 (k:Nat)(a1 a2 a3:Int):Option (T2×Unit):=bif(a1==0)then some (((a2==0),()),())else some ((false,()),())
def Qd :af:=ee 186 [(0,.agg k0)] [(0,.c .bool)] λk v=>f186 k v.1.1.1 v.1.1.2.1 v.1.1.2.2.1
def XM (k:Nat):Full:=fl k 11 []
theorem Y1 :SN Qd:=so Tryz.func186 XM (λ_ _=>trivial) (λ_ _=>by kernel_rfl)
def lR {ρ:Type}(k:Nat):Nat->Int->Int->Int->Int->Int->Int->Int->((T1->Option ρ)×((T0×Unit)->Option ρ)×Unit)->Option ρ|0,_,_,_,_,_,_,_,_=>none|j+1,v16,v17,v18,v19,v20,v21,v22,nx=>bif(decide (v16<16))then(f181 k (wr .i64 (v16+4)) v17 v18 v19 v20 v21 v22).bind λx23=>(f186 k x23.1.1.1 x23.1.1.2.1 x23.1.1.2.2.1).bind λx24=>bif x24.1.1 then(f181 k v16 v17 v18 v19 v20 v21 v22).bind λx25=>(f183 k x25.1.1.1 x25.1.1.2.1 x25.1.1.2.2.1).bind λx26=>bif(decide (x26.1.1>0))then nx.2.1 ((v16,()),())else lR k j (wr .i64 (v16+1)) v17 v18 v19 v20 v21 v22 nx else lR k j (wr .i64 (v16+1)) v17 v18 v19 v20 v21 v22 nx else nx.1 ((),())
def CT (k:Nat):Cut:=⟨⟨[(1,.c (.box 5000000)),(3,.c (.int .i64))],[(5000000,.box 113 k1)],[]⟩,[(.exit 0,⟨[],[],[]⟩),(.ret,⟨[(2,.c (.int .i64))],[],[]⟩)],λρ j v nx=>lR k j v.1.2.1 v.2.1.1 v.2.1.2.1 v.2.1.2.2.1 v.2.1.2.2.2.1 v.2.1.2.2.2.2.1 v.2.1.2.2.2.2.2.1 nx⟩
def f127 (k:Nat)(a1 a2 a3 a4 a5 a6:Int):Option (T0×Unit):=
 lR k k 0 a1 a2 a3 a4 a5 a6
  (λx14:T1=>some (((-1),()),()),
  λx15:(T0×Unit)=>some ((x15.1.1,()),()),
  ())
def sC :af:=ee 127 [(0,.agg k1)] [(0,.c (.int .i64))] λk v=>f127 k v.1.1.1 v.1.1.2.1 v.1.1.2.2.1 v.1.1.2.2.2.1 v.1.1.2.2.2.2.1 v.1.1.2.2.2.2.2.1
def Q1 (k:Nat):Full:=fl k 21 [sD,Qd,nV] (cuts:=[(2,(CT k))])
theorem NC (k:Nat):aF (Q1 k) (CT k) (au Tryz.f127 2):=λρ v nx=>⟨by kernel_rfl,λj=>by kernel_rfl⟩
theorem vB :SN sC:=so Tryz.func127 Q1 (λ_ j=>⟨vC.at j,Y1.at j,qq.at j,trivial⟩) (λ_ _=>by kernel_rfl) (hob:=λk=>Eq.mpr (by kernel_rfl) (And.intro (NC k) (trivial)))
def f81 (k:Nat)(a1 a2 a3 a4 a5 a6 a7 a8 a9 a10 a11 a12:Int):Option (((Int×Int×Int×Int×Int×Int×Int×Int×Int×Int×Int×Int×Int×Unit)×Unit)×Unit):=
 (f126 k a1 a2 a3 a4 a5 a6).bind λx5=>
 (f126 k a7 a8 a9 a10 a11 a12).bind λx6=>
 (f128 k x6.1.1.1 x6.1.1.2.1 x6.1.1.2.2.1 x6.1.1.2.2.2.1 x6.1.1.2.2.2.2.1 x6.1.1.2.2.2.2.2.1 x5.1.1.1 x5.1.1.2.1 x5.1.1.2.2.1 x5.1.1.2.2.2.1 x5.1.1.2.2.2.2.1 x5.1.1.2.2.2.2.2.1).bind λx7=>
 (f127 k x7.1.1.1 x7.1.1.2.1 x7.1.1.2.2.1 x7.1.1.2.2.2.1 x7.1.1.2.2.2.2.1 x7.1.1.2.2.2.2.2.1).bind λx8=>
 some (((x5.1.1.1,x5.1.1.2.1,x5.1.1.2.2.1,x5.1.1.2.2.2.1,x5.1.1.2.2.2.2.1,x5.1.1.2.2.2.2.2.1,x6.1.1.1,x6.1.1.2.1,x6.1.1.2.2.1,x6.1.1.2.2.2.1,x6.1.1.2.2.2.2.1,x6.1.1.2.2.2.2.2.1,x8.1.1,()),()),())
def MN :af:=ee 81 [(0,.agg k1),(1,.agg k1)] [(0,.agg k7)] λk v=>f81 k v.1.1.1 v.1.1.2.1 v.1.1.2.2.1 v.1.1.2.2.2.1 v.1.1.2.2.2.2.1 v.1.1.2.2.2.2.2.1 v.1.2.1.1 v.1.2.1.2.1 v.1.2.1.2.2.1 v.1.2.1.2.2.2.1 v.1.2.1.2.2.2.2.1 v.1.2.1.2.2.2.2.2.1
def aal (k:Nat):Full:=fl k 18 [sB,qb,sC] (touch:=[(3,[(7,[4])])])
theorem Wv :SN MN:=so Tryz.func81 aal (λ_ j=>⟨vA.at j,tf.at j,vB.at j,trivial⟩) (λ_ _=>by kernel_rfl)
def rK {ρ:Type}(k:Nat):Nat->T7->Int->(List T9)->(((T1×((List T9)×Unit))->Option ρ)×((T17×Unit)->Option ρ)×Unit)->Option ρ|0,_,_,_,_=>none|j+1,v15,v16,v17,nx=>bif(decide (v16<(v15.2.length:Int)))then(aq v15.2 v16).bind λx18=>(aq v15.1 x18.1).bind λx19=>(aq v15.2 v16).bind λx20=>(aq v15.1 x20.2.1).bind λx21=>(f81 k x19.1.1 x19.1.2.1 x19.1.2.2 x19.2.1 x19.2.2.1 x19.2.2.2 x21.1.1 x21.1.2.1 x21.1.2.2 x21.2.1 x21.2.2.1 x21.2.2.2).bind λx22=>let x23:Bool:=(decide (x22.1.1.2.2.2.2.2.2.2.2.2.2.2.2.1<0));bif x23 then nx.2.1 (((),false,()),())else bif decide ((v17.length+[(((x22.1.1.1,(x22.1.1.2.1,x22.1.1.2.2.1)),(x22.1.1.2.2.2.1,(x22.1.1.2.2.2.2.1,x22.1.1.2.2.2.2.2.1))),(((x22.1.1.2.2.2.2.2.2.1,(x22.1.1.2.2.2.2.2.2.2.1,x22.1.1.2.2.2.2.2.2.2.2.1)),(x22.1.1.2.2.2.2.2.2.2.2.2.1,(x22.1.1.2.2.2.2.2.2.2.2.2.2.1,x22.1.1.2.2.2.2.2.2.2.2.2.2.2.1))),x22.1.1.2.2.2.2.2.2.2.2.2.2.2.2.1))].length)*104≤roomy)then let x24:(List T9):=(v17++[(((x22.1.1.1,(x22.1.1.2.1,x22.1.1.2.2.1)),(x22.1.1.2.2.2.1,(x22.1.1.2.2.2.2.1,x22.1.1.2.2.2.2.2.1))),(((x22.1.1.2.2.2.2.2.2.1,(x22.1.1.2.2.2.2.2.2.2.1,x22.1.1.2.2.2.2.2.2.2.2.1)),(x22.1.1.2.2.2.2.2.2.2.2.2.1,(x22.1.1.2.2.2.2.2.2.2.2.2.2.1,x22.1.1.2.2.2.2.2.2.2.2.2.2.2.1))),x22.1.1.2.2.2.2.2.2.2.2.2.2.2.2.1))]);rK k j v15 (wr .i64 (v16+1)) x24 nx else none else nx.1 (((),()),(v17,()))
def GO (k:Nat):Cut:=⟨⟨[(0,.c (.dp u5)),(4,.c (.row 5000000)),(5,.c (.int .i64))],[(5000000,.row 115 u4)],[]⟩,[(.exit 0,⟨[(4,.c (.row 5000000))],[(5000000,.row 115 u4)],[]⟩),(.ret,⟨[(2,.c (.lit .nils)),(3,.c .bool)],[],[]⟩)],λρ j v nx=>rK k j v.1.1 v.1.2.2.1 v.2.1 nx⟩
def f69 (k:Nat)(a1:T7):Option (T17×((List T9)×Unit)):=
 rK k k a1 0 ([]:List T9)
  (λx13:(T1×((List T9)×Unit))=>some (((),true,()),(x13.2.1,())),
  λx14:(T17×Unit)=>some (((),x14.1.2.1,()),(([]:List T9),())),
  ())
def UW :af:=⟨69,⟨[(0,.c (.dp u5))],[],[]⟩,⟨[(0,.c (.row 4000000)),(1,.c .bool)],[(4000000,.row 115 u4)],[]⟩,λk v=>f69 k v.1.1⟩
def VI (k:Nat):Full:=fl k 54 [MN] (cuts:=[(3,(GO k))]) (touch:=[(5,[(30,[6])])])
theorem Te (k:Nat):aF (VI k) (GO k) (au Tryz.f69 3):=λρ v nx=>⟨by kernel_rfl,λj=>by kernel_rfl⟩
theorem abm :SN UW:=so Tryz.func69 VI (λ_ j=>⟨Wv.at j,trivial⟩) (λ_ _=>by kernel_rfl) (hob:=λk=>Eq.mpr (by kernel_rfl) (And.intro (Te k) (trivial)))
def f82 (k:Nat)(a1 a2 a3 a4:Int):Option (T0×Unit):=
 some (((wr .i64 ((wr .i64 (a1+a2))-a4)),()),())
def IJ :af:=ee 82 [(0,.agg k0),(1,.c (.int .i64))] [(0,.c (.int .i64))] λk v=>f82 k v.1.1.1 v.1.1.2.1 v.1.1.2.2.1 v.1.2.1
def aam (k:Nat):Full:=fl k 12 []
theorem Pb :SN IJ:=so Tryz.func82 aam (λ_ _=>trivial) (λ_ _=>by kernel_rfl)
def mY {ρ:Type}(k:Nat):Nat->T7->Int->Int->(List Int)->((((T7×Int×Unit×Unit)×T12)->Option ρ)×Unit)->Option ρ|0,_,_,_,_,_=>none|j+1,v56,v57,v58,v59,nx=>bif(decide (v58<(v56.2.length:Int)))then(aq v56.2 v58).bind λx60=>bif(x60.2.2==1)then(aq v56.2 v58).bind λx61=>bif decide (0≤x61.1)&&decide (x61.1<(v59.length:Int))then(v59[x61.1.toNat]?).bind λx62=>bif decide (0≤x61.1)&&decide (x61.1<(v59.length:Int))then(v59[x61.1.toNat]?).bind λ_=>(aq v56.2 v58).bind λx64=>bif decide (0≤x64.2.1)&&decide (x64.2.1<((v59.set x61.1.toNat (wr .i64 (x62+1))).length:Int))then((v59.set x61.1.toNat (wr .i64 (x62+1)))[x64.2.1.toNat]?).bind λx65=>bif decide (0≤x64.2.1)&&decide (x64.2.1<((v59.set x61.1.toNat (wr .i64 (x62+1))).length:Int))then((v59.set x61.1.toNat (wr .i64 (x62+1)))[x64.2.1.toNat]?).bind λ_=>let x67:(List Int):=((v59.set x61.1.toNat (wr .i64 (x62+1))).set x64.2.1.toNat (wr .i64 (x65+1)));mY k j v56 (wr .i64 (v57+1)) (wr .i64 (v58+1)) x67 nx else none else none else none else none else mY k j v56 v57 (wr .i64 (v58+1)) v59 nx else nx.1 ((v56,v57,(),()),(v59,()))
def GP (k:Nat):Cut:=⟨⟨[(0,.c (.dp u5)),(4,.c (.int .i64)),(5,.c (.row 5000000)),(6,.c (.int .i64))],[(5000000,.row 2 (.int .i64))],[]⟩,[(.exit 0,⟨[(0,.c (.dp u5)),(4,.c (.int .i64)),(5,.c (.row 5000000))],[(5000000,.row 2 (.int .i64))],[]⟩)],λρ j v nx=>mY k j v.1.1 v.1.2.1 v.1.2.2.2.1 v.2.1 nx⟩
def kt {ρ:Type}(k:Nat):Nat->T7->Int->Int->(List Int)->((((T7×Int×Unit×Unit)×T12)->Option ρ)×((T17×Unit)->Option ρ)×Unit)->Option ρ|0,_,_,_,_,_=>none|j+1,v68,v69,v70,v71,nx=>bif(decide (v70<(v71.length:Int)))then bif decide (0≤v70)&&decide (v70<(v71.length:Int))then(v71[v70.toNat]?).bind λx72=>bif(x72 !=0)then bif decide (0≤v70)&&decide (v70<(v71.length:Int))then(v71[v70.toNat]?).bind λx73=>bif(x73 !=2)then nx.2.1 (((),false,()),())else kt k j v68 v69 (wr .i64 (v70+1)) v71 nx else none else kt k j v68 v69 (wr .i64 (v70+1)) v71 nx else none else nx.1 ((v68,v69,(),()),(v71,()))
def DW (k:Nat):Cut:=⟨⟨[(0,.c (.dp u5)),(4,.c (.int .i64)),(5,.c (.row 5000000)),(7,.c (.int .i64))],[(5000000,.row 2 (.int .i64))],[]⟩,[(.exit 2,⟨[(0,.c (.dp u5)),(4,.c (.int .i64)),(5,.c (.row 5000000))],[(5000000,.row 2 (.int .i64))],[]⟩),(.ret,⟨[(2,.c (.lit .nils)),(3,.c .bool)],[],[]⟩)],λρ j v nx=>kt k j v.1.1 v.1.2.1 v.1.2.2.2.1 v.2.1 nx⟩
def fa {ρ:Type}(k:Nat):Nat->T7->Int->Int->Int->Int->Int->(List Int)->((((T7×Int×Unit×Int×Int×Unit)×T12)->Option ρ)×Unit)->Option ρ|0,_,_,_,_,_,_,_,_=>none|j+1,v74,v75,v76,v77,v78,v79,v80,nx=>bif(decide (v79<(v74.2.length:Int)))then(aq v74.2 v79).bind λx81=>bif(x81.2.2==1)then bif(v79 !=v76)then bif(x81.1==v77)then bif(decide (v78<0))then fa k j v74 v75 v76 v77 v79 (wr .i64 (v79+1)) v80 nx else fa k j v74 v75 v76 v77 v78 (wr .i64 (v79+1)) v80 nx else bif(x81.2.1==v77)then bif(decide (v78<0))then fa k j v74 v75 v76 v77 v79 (wr .i64 (v79+1)) v80 nx else fa k j v74 v75 v76 v77 v78 (wr .i64 (v79+1)) v80 nx else fa k j v74 v75 v76 v77 v78 (wr .i64 (v79+1)) v80 nx else fa k j v74 v75 v76 v77 v78 (wr .i64 (v79+1)) v80 nx else fa k j v74 v75 v76 v77 v78 (wr .i64 (v79+1)) v80 nx else nx.1 ((v74,v75,(),v77,v78,()),(v80,()))
def DY (k:Nat):Cut:=⟨⟨[(0,.c (.dp u5)),(4,.c (.int .i64)),(8,.c (.row 5000000)),(9,.c (.int .i64)),(10,.c (.int .i64)),(11,.c (.int .i64)),(12,.c (.int .i64))],[(5000000,.row 2 (.int .i64))],[]⟩,[(.exit 6,⟨[(0,.c (.dp u5)),(4,.c (.int .i64)),(8,.c (.row 5000000)),(10,.c (.int .i64)),(11,.c (.int .i64))],[(5000000,.row 2 (.int .i64))],[]⟩)],λρ j v nx=>fa k j v.1.1 v.1.2.1 v.1.2.2.2.1 v.1.2.2.2.2.1 v.1.2.2.2.2.2.1 v.1.2.2.2.2.2.2.1 v.2.1 nx⟩
def kv {ρ:Type}(k:Nat):Nat->T7->Int->Int->(List Int)->((((Int×Unit×Unit)×T12)->Option ρ)×Unit)->Option ρ|0,_,_,_,_,_=>none|j+1,v82,v83,v84,v85,nx=>bif decide (0≤(wr .i64 ((v85.length:Int)-1)))&&decide ((wr .i64 ((v85.length:Int)-1))<(v85.length:Int))then(v85[(wr .i64 ((v85.length:Int)-1)).toNat]?).bind λx86=>fa k k v82 v83 v84 x86 (-1) 0 v85 (λx88:((T7×Int×Unit×Int×Int×Unit)×T12)=>(aq x88.1.1.2 x88.1.2.2.2.2.1).bind λx89=>(f82 k x89.1 x89.2.1 x89.2.2 x88.1.2.2.2.1).bind λx90=>bif(x90.1.1==0)then nx.1 ((x88.1.2.1,(),()),(x88.2.1,()))else bif decide ((x88.2.1.length+[x90.1.1].length)*8≤roomy)then kv k j x88.1.1 x88.1.2.1 x88.1.2.2.2.2.1 (x88.2.1++[x90.1.1]) nx else none,())else none
def DX (k:Nat):Cut:=⟨⟨[(0,.c (.dp u5)),(4,.c (.int .i64)),(8,.c (.row 5000000)),(9,.c (.int .i64))],[(5000000,.row 2 (.int .i64))],[]⟩,[(.exit 4,⟨[(4,.c (.int .i64)),(8,.c (.row 5000000))],[(5000000,.row 2 (.int .i64))],[]⟩)],λρ j v nx=>kv k j v.1.1 v.1.2.1 v.1.2.2.2.1 v.2.1 nx⟩
def f70 (k:Nat)(a1:T7):Option (T17×T12):=bif decide ((a1.1.length:Int)=(a1.1.length:Int))&&decide (0≤(a1.1.length:Int))&&decide ((a1.1.length:Int)*8≤roomy)then let x46:(List Int):=(List.replicate (a1.1.length:Int).toNat (0:Int));mY k k a1 0 0 x46 (λx48:((T7×Int×Unit×Unit)×T12)=>kt k k x48.1.1 x48.1.2.1 0 x48.2.1 (λx51:((T7×Int×Unit×Unit)×T12)=>bif((x51.2.1.length:Int)==0)then some (((),false,()),(([]:List Int),()))else bif decide (0≤0)&&decide (0<(x51.2.1.length:Int))then(x51.2.1[0]?).bind λx53=>bif(x53 !=2)then some (((),false,()),(([]:List Int),()))else kv k k x51.1.1 x51.1.2.1 (-1) ([(0:Int)]) (λx54:((Int×Unit×Unit)×T12)=>some (((),((x54.2.1.length:Int)==x54.1.1),()),(x54.2.1,())),())else none,λx55:(T17×Unit)=>some (((),x55.1.2.1,()),(([]:List Int),())),()),())else none
def UX :af:=⟨70,⟨[(0,.c (.dp u5))],[],[]⟩,⟨[(0,.c (.row 4000000)),(1,.c .bool)],[(4000000,.row 2 (.int .i64))],[]⟩,λk v=>f70 k v.1.1⟩
def Ev (k:Nat):Full:=fl k 163 [IJ] (cuts:=[(4,(GP k)),(11,(DW k)),(22,(DY k)),(19,(DX k))])
theorem Tf (k:Nat):aF (Ev k) (GP k) (au Tryz.f70 4):=λρ v nx=>⟨by kernel_rfl,λj=>by kernel_rfl⟩
theorem OF (k:Nat):aF (Ev k) (DW k) (au Tryz.f70 11):=λρ v nx=>⟨by kernel_rfl,λj=>by kernel_rfl⟩
theorem OH (k:Nat):aF (Ev k) (DY k) (au Tryz.f70 22):=λρ v nx=>⟨by kernel_rfl,λj=>by kernel_rfl⟩
theorem OG (k:Nat):aF (Ev k) (DX k) (au Tryz.f70 19):=λρ v nx=>⟨by kernel_rfl,λj=>by kernel_rfl⟩
theorem abn :SN UX:=so Tryz.func70 Ev (λ_ j=>⟨Pb.at j,trivial⟩) (λ_ _=>by kernel_rfl) (hob:=λk=>Eq.mpr (by kernel_rfl) (And.intro (Tf k) (And.intro (OF k) (And.intro (OH k) (And.intro (OG k) (trivial))))))
def f125 (k:Nat)(a1 a2 a3 a4 a5 a6:Int):Option (T2×Unit):=bif(a1==a4)then some ((true,()),())else bif(a1==a5)then some ((true,()),())else bif(a2==a4)then some ((true,()),())else some (((a2==a5),()),())
def PK :af:=ee 125 [(0,.agg k0),(1,.agg k0)] [(0,.c .bool)] λk v=>f125 k v.1.1.1 v.1.1.2.1 v.1.1.2.2.1 v.1.2.1.1 v.1.2.1.2.1 v.1.2.1.2.2.1
def W9 (k:Nat):Full:=fl k 31 []
theorem Yw :SN PK:=so Tryz.func125 W9 (λ_ _=>trivial) (λ_ _=>by kernel_rfl)
def f187 (k:Nat)(a1 a2 a3 a4 a5 a6 a7:Int):Option ((T24×Unit)×Unit):=
 (f131 k a7).bind λx3=>
 (f181 k (wr .i64 ((x3.1.1.tmod 8)+4)) a1 a2 a3 a4 a5 a6).bind λx4=>
 some ((((x3.1.1.tmod 8),x4.1.1.1,x4.1.1.2.1,x4.1.1.2.2.1,()),()),())
def Ca :af:=ee 187 [(0,.agg k1),(1,.c (.int .i64))] [(0,.agg k3)] λk v=>f187 k v.1.1.1 v.1.1.2.1 v.1.1.2.2.1 v.1.1.2.2.2.1 v.1.1.2.2.2.2.1 v.1.1.2.2.2.2.2.1 v.1.2.1
def XN (k:Nat):Full:=fl k 14 [xP,sD]
theorem JO :SN Ca:=so Tryz.func187 XN (λ_ j=>⟨Ci.at j,vC.at j,trivial⟩) (λ_ _=>by kernel_rfl)
def f178 (k:Nat)(a1:T9):Option ((T24×Unit)×Unit):=
 (f187 k a1.1.1.1 a1.1.1.2.1 a1.1.1.2.2 a1.1.2.1 a1.1.2.2.1 a1.1.2.2.2 a1.2.2).bind λx2=>
 some (((x2.1.1.1,x2.1.1.2.1,x2.1.1.2.2.1,x2.1.1.2.2.2.1,()),()),())
def Qc :af:=ee 178 [(0,.c (.dp u4))] [(0,.agg k3)] λk v=>f178 k v.1.1
def XE (k:Nat):Full:=fl k 12 [Ca] (touch:=[(1,[(9,[2])])])
theorem Y0 :SN Qc:=so Tryz.func178 XE (λ_ j=>⟨JO.at j,trivial⟩) (λ_ _=>by kernel_rfl)
def f179 (k:Nat)(a1 a2 a3 a4 a5 a6 a7 a8 a9 a10:Int):Option (T0×Unit):=
 (f181 k (wr .i64 (a1+4)) a5 a6 a7 a8 a9 a10).bind λx4=>
 (f184 k x4.1.1.1 x4.1.1.2.1 x4.1.1.2.2.1 a2 a3 a4).bind λx5=>
 (f183 k x5.1.1.1 x5.1.1.2.1 x5.1.1.2.2.1).bind λx6=>
 some ((x6.1.1,()),())
def B9 :af:=ee 179 [(0,.agg k3),(1,.agg k1)] [(0,.c (.int .i64))] λk v=>f179 k v.1.1.1 v.1.1.2.1 v.1.1.2.2.1 v.1.1.2.2.2.1 v.1.2.1.1 v.1.2.1.2.1 v.1.2.1.2.2.1 v.1.2.1.2.2.2.1 v.1.2.1.2.2.2.2.1 v.1.2.1.2.2.2.2.2.1
def XF (k:Nat):Full:=fl k 14 [sD,nW,nV]
theorem JN :SN B9:=so Tryz.func179 XF (λ_ j=>⟨vC.at j,qs.at j,qq.at j,trivial⟩) (λ_ _=>by kernel_rfl)
def f182 (k:Nat)(a1 a2 a3 a4 a5 a6:Int):Option (T20×Unit):=(f184 k a1 a2 a3 a4 a5 a6).bind λx3=>(f183 k x3.1.1.1 x3.1.1.2.1 x3.1.1.2.2.1).bind λx4=>bif(decide (x4.1.1<0))then some (((a1,a2,a3,()),()),())else some (((a4,a5,a6,()),()),())
def Iu :af:=ee 182 [(0,.agg k0),(1,.agg k0)] [(0,.agg k0)] λk v=>f182 k v.1.1.1 v.1.1.2.1 v.1.1.2.2.1 v.1.2.1.1 v.1.2.1.2.1 v.1.2.1.2.2.1
def XI (k:Nat):Full:=fl k 12 [nW,nV]
theorem R4 :SN Iu:=so Tryz.func182 XI (λ_ j=>⟨qs.at j,qq.at j,trivial⟩) (λ_ _=>by kernel_rfl)
def f180 (k:Nat)(a1 a2 a3 a4 a5 a6:Int):Option (T20×Unit):=(f184 k a1 a2 a3 a4 a5 a6).bind λx3=>(f183 k x3.1.1.1 x3.1.1.2.1 x3.1.1.2.2.1).bind λx4=>bif(decide (x4.1.1>0))then some (((a1,a2,a3,()),()),())else some (((a4,a5,a6,()),()),())
def It :af:=ee 180 [(0,.agg k0),(1,.agg k0)] [(0,.agg k0)] λk v=>f180 k v.1.1.1 v.1.1.2.1 v.1.1.2.2.1 v.1.2.1.1 v.1.2.1.2.1 v.1.2.1.2.2.1
def XG (k:Nat):Full:=fl k 12 [nW,nV]
theorem R3 :SN It:=so Tryz.func180 XG (λ_ j=>⟨qs.at j,qq.at j,trivial⟩) (λ_ _=>by kernel_rfl)
def f124 (k:Nat)(a1 a2:T9)(a3:Bool):Option (T2×Unit):=bif((a1.2.2.tmod 8) !=(a2.2.2.tmod 8))then(f178 k a1).bind λx35=>(f178 k a2).bind λx36=>bif(!a3)then(f179 k x35.1.1.1 x35.1.1.2.1 x35.1.1.2.2.1 x35.1.1.2.2.2.1 a2.1.1.1 a2.1.1.2.1 a2.1.1.2.2 a2.1.2.1 a2.1.2.2.1 a2.1.2.2.2).bind λx37=>(f179 k x35.1.1.1 x35.1.1.2.1 x35.1.1.2.2.1 x35.1.1.2.2.2.1 a2.2.1.1.1 a2.2.1.1.2.1 a2.2.1.1.2.2 a2.2.1.2.1 a2.2.1.2.2.1 a2.2.1.2.2.2).bind λx38=>bif(decide ((wr .i64 (x37.1.1*x38.1.1))≤0))then(f179 k x36.1.1.1 x36.1.1.2.1 x36.1.1.2.2.1 x36.1.1.2.2.2.1 a1.1.1.1 a1.1.1.2.1 a1.1.1.2.2 a1.1.2.1 a1.1.2.2.1 a1.1.2.2.2).bind λx39=>(f179 k x36.1.1.1 x36.1.1.2.1 x36.1.1.2.2.1 x36.1.1.2.2.2.1 a1.2.1.1.1 a1.2.1.1.2.1 a1.2.1.1.2.2 a1.2.1.2.1 a1.2.1.2.2.1 a1.2.1.2.2.2).bind λx40=>some (((decide ((wr .i64 (x39.1.1*x40.1.1))≤0)),()),())else some ((false,()),())else some ((false,()),())else(f178 k a1).bind λx43=>(f179 k x43.1.1.1 x43.1.1.2.1 x43.1.1.2.2.1 x43.1.1.2.2.2.1 a2.1.1.1 a2.1.1.2.1 a2.1.1.2.2 a2.1.2.1 a2.1.2.2.1 a2.1.2.2.2).bind λx44=>bif(x44.1.1 !=0)then some ((false,()),())else(f181 k a1.2.2 a1.1.1.1 a1.1.1.2.1 a1.1.1.2.2 a1.1.2.1 a1.1.2.2.1 a1.1.2.2.2).bind λx45=>(f181 k a1.2.2 a2.1.1.1 a2.1.1.2.1 a2.1.1.2.2 a2.1.2.1 a2.1.2.2.1 a2.1.2.2.2).bind λx46=>(f181 k a1.2.2 a2.2.1.1.1 a2.2.1.1.2.1 a2.2.1.1.2.2 a2.2.1.2.1 a2.2.1.2.2.1 a2.2.1.2.2.2).bind λx47=>(f182 k x46.1.1.1 x46.1.1.2.1 x46.1.1.2.2.1 x47.1.1.1 x47.1.1.2.1 x47.1.1.2.2.1).bind λx48=>(f180 k x45.1.1.1 x45.1.1.2.1 x45.1.1.2.2.1 x48.1.1.1 x48.1.1.2.1 x48.1.1.2.2.1).bind λx49=>(f181 k a1.2.2 a1.2.1.1.1 a1.2.1.1.2.1 a1.2.1.1.2.2 a1.2.1.2.1 a1.2.1.2.2.1 a1.2.1.2.2.2).bind λx50=>(f181 k a1.2.2 a2.1.1.1 a2.1.1.2.1 a2.1.1.2.2 a2.1.2.1 a2.1.2.2.1 a2.1.2.2.2).bind λx51=>(f181 k a1.2.2 a2.2.1.1.1 a2.2.1.1.2.1 a2.2.1.1.2.2 a2.2.1.2.1 a2.2.1.2.2.1 a2.2.1.2.2.2).bind λx52=>(f180 k x51.1.1.1 x51.1.1.2.1 x51.1.1.2.2.1 x52.1.1.1 x52.1.1.2.1 x52.1.1.2.2.1).bind λx53=>(f182 k x50.1.1.1 x50.1.1.2.1 x50.1.1.2.2.1 x53.1.1.1 x53.1.1.2.1 x53.1.1.2.2.1).bind λx54=>(f184 k x54.1.1.1 x54.1.1.2.1 x54.1.1.2.2.1 x49.1.1.1 x49.1.1.2.1 x49.1.1.2.2.1).bind λx55=>(f183 k x55.1.1.1 x55.1.1.2.1 x55.1.1.2.2.1).bind λx56=>bif(decide (x56.1.1>0))then some ((true,()),())else bif(x56.1.1==0)then some (((!a3),()),())else some ((false,()),())
def PJ :af:=ee 124 [(0,.c (.dp u4)),(1,.c (.dp u4)),(2,.c .bool)] [(0,.c .bool)] λk v=>f124 k v.1.1 v.1.2.1 v.1.2.2.1
def W8 (k:Nat):Full:=fl k 128 [Qc,B9,sD,Iu,It,nW,nV] (touch:=[(8,[(21,[10])]),(9,[(21,[11])])])
theorem Yv :SN PJ:=so Tryz.func124 W8 (λ_ j=>⟨Y0.at j,JN.at j,vC.at j,R4.at j,R3.at j,qs.at j,qq.at j,trivial⟩) (λ_ _=>by kernel_rfl)
def rL {ρ:Type}(k:Nat):Nat->T7->(List T9)->Int->Int->((((T7×(List T9)×Int×Unit)×Unit)->Option ρ)×((T2×Unit)->Option ρ)×Unit)->Option ρ|0,_,_,_,_,_=>none|j+1,v20,v21,v22,v23,nx=>bif(decide (v23<v22))then(aq v21 v22).bind λx24=>(aq v21 v23).bind λx25=>(aq v20.2 v22).bind λx26=>(aq v20.2 v23).bind λx27=>(f125 k x26.1 x26.2.1 x26.2.2 x27.1 x27.2.1 x27.2.2).bind λx28=>(f124 k x24 x25 x28.1.1).bind λx29=>bif x29.1.1 then nx.2.1 ((false,()),())else rL k j v20 v21 v22 (wr .i64 (v23+1)) nx else nx.1 ((v20,v21,v22,()),())
def GR (k:Nat):Cut:=⟨⟨[(0,.c (.dp u5)),(1,.c (.sl u4)),(5,.c (.int .i64)),(6,.c (.int .i64))],[],[]⟩,[(.exit 2,⟨[(0,.c (.dp u5)),(1,.c (.sl u4)),(5,.c (.int .i64))],[],[]⟩),(.ret,⟨[(4,.c .bool)],[],[]⟩)],λρ j v nx=>rL k j v.1.1 v.1.2.1 v.1.2.2.1 v.1.2.2.2.1 nx⟩
def pk {ρ:Type}(k:Nat):Nat->T7->(List T9)->Int->((T1->Option ρ)×((T2×Unit)->Option ρ)×Unit)->Option ρ|0,_,_,_,_=>none|j+1,v30,v31,v32,nx=>bif(decide (v32<(v31.length:Int)))then rL k k v30 v31 v32 0 (λx33:((T7×(List T9)×Int×Unit)×Unit)=>pk k j x33.1.1 x33.1.2.1 (wr .i64 (x33.1.2.2.1+1)) nx,λx34:(T2×Unit)=>nx.2.1 ((x34.1.1,()),()),())else nx.1 ((),())
def GQ (k:Nat):Cut:=⟨⟨[(0,.c (.dp u5)),(1,.c (.sl u4)),(5,.c (.int .i64))],[],[]⟩,[(.exit 0,⟨[],[],[]⟩),(.ret,⟨[(4,.c .bool)],[],[]⟩)],λρ j v nx=>pk k j v.1.1 v.1.2.1 v.1.2.2.1 nx⟩
def f71 (k:Nat)(a1:T7)(a2:(List T9)):Option (T2×Unit):=
 pk k k a1 a2 0
  (λx18:T1=>some ((true,()),()),
  λx19:(T2×Unit)=>some ((x19.1.1,()),()),
  ())
def UY :af:=ee 71 [(0,.c (.dp u5)),(1,.c (.sl u4))] [(0,.c .bool)] λk v=>f71 k v.1.1 v.1.2.1
def M3 (k:Nat):Full:=fl k 40 [PK,PJ] (cuts:=[(5,(GR k)),(2,(GQ k))])
theorem Th (k:Nat):aF (M3 k) (GR k) (au Tryz.f71 5):=λρ v nx=>⟨by kernel_rfl,λj=>by kernel_rfl⟩
theorem Tg (k:Nat):aF (M3 k) (GQ k) (au Tryz.f71 2):=λρ v nx=>⟨by kernel_rfl,λj=>by kernel_rfl⟩
theorem abo :SN UY:=so Tryz.func71 M3 (λ_ j=>⟨Yw.at j,Yv.at j,trivial⟩) (λ_ _=>by kernel_rfl) (hob:=λk=>Eq.mpr (by kernel_rfl) (And.intro (Th k) (And.intro (Tg k) (trivial))))
def rH {ρ:Type}(k:Nat):Nat->(List Int)->Int->Int->((T1->Option ρ)×((T2×Unit)->Option ρ)×Unit)->Option ρ|0,_,_,_,_=>none|j+1,v9,v10,v11,nx=>bif(decide (v11<(v9.length:Int)))then(aq v9 v11).bind λx12=>bif(x12==v10)then nx.2.1 ((true,()),())else rH k j v9 v10 (wr .i64 (v11+1)) nx else nx.1 ((),())
def GD (k:Nat):Cut:=⟨⟨[(0,.c (.sl (.int .i64))),(1,.c (.int .i64)),(5,.c (.int .i64))],[],[]⟩,[(.exit 0,⟨[],[],[]⟩),(.ret,⟨[(4,.c .bool)],[],[]⟩)],λρ j v nx=>rH k j v.1.1 v.1.2.1 v.1.2.2.1 nx⟩
def f47 (k:Nat)(a1:(List Int))(a2:Int):Option (T2×Unit):=
 rH k k a1 a2 0
  (λx7:T1=>some ((false,()),()),
  λx8:(T2×Unit)=>some ((x8.1.1,()),()),
  ())
def wR :af:=ee 47 [(0,.c (.sl (.int .i64))),(1,.c (.int .i64))] [(0,.c .bool)] λk v=>f47 k v.1.1 v.1.2.1
def VB (k:Nat):Full:=fl k 18 [] (cuts:=[(2,(GD k))])
theorem S4 (k:Nat):aF (VB k) (GD k) (au Tryz.f47 2):=λρ v nx=>⟨by kernel_rfl,λj=>by kernel_rfl⟩
theorem zL :SN wR:=so Tryz.func47 VB (λ_ _=>trivial) (λ_ _=>by kernel_rfl) (hob:=λk=>Eq.mpr (by kernel_rfl) (And.intro (S4 k) (trivial)))
def oU {ρ:Type}(k:Nat)(v46:T7)(v47 v48:Int)(v49:(List Int))(v50 v51 v52:Int)(nx:((((T7×Unit×Int×Int×Unit)×T12)->Option ρ)×Unit)):Option ρ:=bif decide (0≤v47)&&decide (v47<(v49.length:Int))then(v49[v47.toNat]?).bind λx53=>bif(v51==x53)then(f47 k v49 v50).bind λx54=>bif(!x54.1.1)then bif decide ((v49.length+[v50].length)*8≤roomy)then nx.1 ((v46,(),v47,v48,()),((v49++[v50]),()))else none else nx.1 ((v46,(),v47,v48,()),(v49,()))else nx.1 ((v46,(),v47,v48,()),(v49,()))else none
def DZ :Cut:=⟨⟨[(0,.c (.dp u5)),(3,.c (.row 5000000)),(4,.c (.int .i64)),(5,.c (.int .i64)),(6,.c (.box 5000001))],[(5000000,.row 2 (.int .i64)),(5000001,.box 77 k0)],[]⟩,[(.normal,⟨[(0,.c (.dp u5)),(3,.c (.row 5000000)),(4,.c (.int .i64)),(5,.c (.int .i64))],[(5000000,.row 2 (.int .i64))],[]⟩)],λρ k v nx=>oU k v.1.1 v.1.2.2.1 v.1.2.2.2.1 v.2.1 v.2.2.1.1 v.2.2.1.2.1 v.2.2.1.2.2.1 nx⟩
def m7 {ρ:Type}(k:Nat):Nat->T7->Int->Int->(List Int)->((((T7×Unit×Int×Unit)×T12)->Option ρ)×Unit)->Option ρ|0,_,_,_,_,_=>none|j+1,v32,v33,v34,v35,nx=>bif(decide (v34<(v32.2.length:Int)))then(aq v32.2 v34).bind λx36=>bif decide (0≤v33)&&decide (v33<(v35.length:Int))then(v35[v33.toNat]?).bind λx37=>bif(x36.1==x37)then(f47 k v35 x36.2.1).bind λx38=>bif(!x38.1.1)then bif decide ((v35.length+[x36.2.1].length)*8≤roomy)then oU k v32 v33 v34 (v35++[x36.2.1]) x36.1 x36.2.1 x36.2.2 (λx39:((T7×Unit×Int×Int×Unit)×T12)=>m7 k j x39.1.1 x39.1.2.2.1 (wr .i64 (x39.1.2.2.2.1+1)) x39.2.1 nx,())else none else oU k v32 v33 v34 v35 x36.1 x36.2.1 x36.2.2 (λx40:((T7×Unit×Int×Int×Unit)×T12)=>m7 k j x40.1.1 x40.1.2.2.1 (wr .i64 (x40.1.2.2.2.1+1)) x40.2.1 nx,())else oU k v32 v33 v34 v35 x36.1 x36.2.1 x36.2.2 (λx41:((T7×Unit×Int×Int×Unit)×T12)=>m7 k j x41.1.1 x41.1.2.2.1 (wr .i64 (x41.1.2.2.2.1+1)) x41.2.1 nx,())else none else nx.1 ((v32,(),v33,()),(v35,()))
def GU (k:Nat):Cut:=⟨⟨[(0,.c (.dp u5)),(3,.c (.row 5000000)),(4,.c (.int .i64)),(5,.c (.int .i64))],[(5000000,.row 2 (.int .i64))],[]⟩,[(.exit 2,⟨[(0,.c (.dp u5)),(3,.c (.row 5000000)),(4,.c (.int .i64))],[(5000000,.row 2 (.int .i64))],[]⟩)],λρ j v nx=>m7 k j v.1.1 v.1.2.2.1 v.1.2.2.2.1 v.2.1 nx⟩
def mZ {ρ:Type}(k:Nat):Nat->T7->Int->(List Int)->((((T7×Unit×Unit)×T12)->Option ρ)×Unit)->Option ρ|0,_,_,_,_=>none|j+1,v42,v43,v44,nx=>bif(decide (v43<(v44.length:Int)))then m7 k k v42 v43 0 v44 (λx45:((T7×Unit×Int×Unit)×T12)=>mZ k j x45.1.1 (wr .i64 (x45.1.2.2.1+1)) x45.2.1 nx,())else nx.1 ((v42,(),()),(v44,()))
def GS (k:Nat):Cut:=⟨⟨[(0,.c (.dp u5)),(3,.c (.row 5000000)),(4,.c (.int .i64))],[(5000000,.row 2 (.int .i64))],[]⟩,[(.exit 0,⟨[(0,.c (.dp u5)),(3,.c (.row 5000000))],[(5000000,.row 2 (.int .i64))],[]⟩)],λρ j v nx=>mZ k j v.1.1 v.1.2.2.1 v.2.1 nx⟩
def f72 (k:Nat)(a1:T7):Option (T2×Unit):=
 mZ k k a1 0 ([(0:Int)])
  (λx30:((T7×Unit×Unit)×T12)=>
   let x31:Bool:=((x30.2.1.length:Int)==(x30.1.1.1.length:Int))
   some ((x31,()),()),
  ())
def UZ :af:=ee 72 [(0,.c (.dp u5))] [(0,.c .bool)] λk v=>f72 k v.1.1
def Jc (k:Nat):Full:=fl k 76 [wR] (cuts:=[(6,(GU k)),(3,(GS k))]) (joins:=[(11,DZ)])
theorem OI (k:Nat):dh (Jc k) DZ (cY Tryz.f72 11):=λρ v nx=>by kernel_rfl
theorem Tj (k:Nat):aF (Jc k) (GU k) (au Tryz.f72 6):=λρ v nx=>⟨by kernel_rfl,λj=>by kernel_rfl⟩
theorem Ti (k:Nat):aF (Jc k) (GS k) (au Tryz.f72 3):=λρ v nx=>⟨by kernel_rfl,λj=>by kernel_rfl⟩
theorem abp :SN UZ:=so Tryz.func72 Jc (λ_ j=>⟨zL.at j,trivial⟩) (λ_ _=>by kernel_rfl) (hob:=λk=>Eq.mpr (by kernel_rfl) (And.intro (OI k) (And.intro (Tj k) (And.intro (Ti k) (trivial)))))
def pn {ρ:Type}(k:Nat):Nat->T7->(List Int)->Int->Int->T6->((T10->Option ρ)×Unit)->Option ρ|0,_,_,_,_,_,_=>none|j+1,v24,v25,v26,v27,v28,nx=>bif(decide (v27<v26))then(aq v25 v27).bind λx29=>(aq v24.1 x29).bind λx30=>(f126 k x30.1.1 x30.1.2.1 x30.1.2.2 x30.2.1 x30.2.2.1 x30.2.2.2).bind λx31=>bif decide (v26=0)then none else let x32:Int:=((wr .i64 ((wr .i64 (v27+v26))-1)).tmod v26);(aq v25 x32).bind λx33=>(aq v24.1 x33).bind λx34=>(f126 k x34.1.1 x34.1.2.1 x34.1.2.2 x34.2.1 x34.2.2.1 x34.2.2.2).bind λx35=>(f128 k x31.1.1.1 x31.1.1.2.1 x31.1.1.2.2.1 x31.1.1.2.2.2.1 x31.1.1.2.2.2.2.1 x31.1.1.2.2.2.2.2.1 x35.1.1.1 x35.1.1.2.1 x35.1.1.2.2.1 x35.1.1.2.2.2.1 x35.1.1.2.2.2.2.1 x35.1.1.2.2.2.2.2.1).bind λx36=>(f127 k x36.1.1.1 x36.1.1.2.1 x36.1.1.2.2.1 x36.1.1.2.2.2.1 x36.1.1.2.2.2.2.1 x36.1.1.2.2.2.2.2.1).bind λx37=>bif decide (v26=0)then none else(aq v25 ((wr .i64 (v27+1)).tmod v26)).bind λx38=>(aq v24.1 x38).bind λx39=>(f126 k x39.1.1 x39.1.2.1 x39.1.2.2 x39.2.1 x39.2.2.1 x39.2.2.2).bind λx40=>(f128 k x40.1.1.1 x40.1.1.2.1 x40.1.1.2.2.1 x40.1.1.2.2.2.1 x40.1.1.2.2.2.2.1 x40.1.1.2.2.2.2.2.1 x31.1.1.1 x31.1.1.2.1 x31.1.1.2.2.1 x31.1.1.2.2.2.1 x31.1.1.2.2.2.2.1 x31.1.1.2.2.2.2.2.1).bind λx41=>(f127 k x41.1.1.1 x41.1.1.2.1 x41.1.1.2.2.1 x41.1.1.2.2.2.1 x41.1.1.2.2.2.2.1 x41.1.1.2.2.2.2.2.1).bind λx42=>bif(x37.1.1 !=x42.1.1)then(aq v25 v27).bind λx43=>(aq v24.1 x43).bind λx44=>bif decide ((v28.length+[x44].length)*48≤roomy)then pn k j v24 v25 v26 (wr .i64 (v27+1)) (v28++[x44]) nx else none else pn k j v24 v25 v26 (wr .i64 (v27+1)) v28 nx else nx.1 (((),()),(v28,()))
def GV (k:Nat):Cut:=⟨⟨[(0,.c (.dp u5)),(1,.c (.sl (.int .i64))),(5,.c (.row 5000000)),(6,.c (.int .i64)),(7,.c (.int .i64))],[(5000000,.row 71 (.pair u1 u1))],[]⟩,[(.exit 0,⟨[(5,.c (.row 5000000))],[(5000000,.row 71 (.pair u1 u1))],[]⟩)],λρ j v nx=>pn k j v.1.1 v.1.2.1 v.1.2.2.2.1 v.1.2.2.2.2.1 v.2.1 nx⟩
def f73 (k:Nat)(a1:T7)(a2:(List Int)):Option T10:=
 pn k k a1 a2 (a2.length:Int) 0 ([]:List (T5×T5))
  (λx23:T10=>some (((),()),(x23.2.1,())),
  ())
def U0 :af:=⟨73,⟨[(0,.c (.dp u5)),(1,.c (.sl (.int .i64)))],[],[]⟩,⟨[(0,.c (.row 4000000))],[(4000000,.row 71 (.pair u1 u1))],[]⟩,λk v=>f73 k v.1.1 v.1.2.1⟩
def VJ (k:Nat):Full:=fl k 83 [sB,qb,sC] (cuts:=[(4,(GV k))]) (touch:=[(6,[(12,[8])]),(10,[(12,[5000000])])])
theorem Tk (k:Nat):aF (VJ k) (GV k) (au Tryz.f73 4):=λρ v nx=>⟨by kernel_rfl,λj=>by kernel_rfl⟩
theorem abq :SN U0:=so Tryz.func73 VJ (λ_ j=>⟨vA.at j,tf.at j,vB.at j,trivial⟩) (λ_ _=>by kernel_rfl) (hob:=λk=>Eq.mpr (by kernel_rfl) (And.intro (Tk k) (trivial)))
def po {ρ:Type}(k:Nat):Nat->T6->Int->Int->((((T6×Int×Unit)×Unit)->Option ρ)×Unit)->Option ρ|0,_,_,_,_=>none|j+1,v14,v15,v16,nx=>bif(decide (v16<(v14.length:Int)))then(aq v14 v16).bind λx17=>(aq v14 v15).bind λx18=>(f123 k x17.1.1 x17.1.2.1 x17.1.2.2 x17.2.1 x17.2.2.1 x17.2.2.2 x18.1.1 x18.1.2.1 x18.1.2.2 x18.2.1 x18.2.2.1 x18.2.2.2).bind λx19=>bif(decide (x19.1.1<0))then po k j v14 v16 (wr .i64 (v16+1)) nx else po k j v14 v15 (wr .i64 (v16+1)) nx else nx.1 ((v14,v15,()),())
def GW (k:Nat):Cut:=⟨⟨[(0,.c (.sl (.pair u1 u1))),(3,.c (.int .i64)),(4,.c (.int .i64))],[],[]⟩,[(.exit 0,⟨[(0,.c (.sl (.pair u1 u1))),(3,.c (.int .i64))],[],[]⟩)],λρ j v nx=>po k j v.1.1 v.1.2.1 v.1.2.2.1 nx⟩
def f74 (k:Nat)(a1:T6):Option T10:=po k k a1 0 1 (λx11:((T6×Int×Unit)×Unit)=>bif decide (0≤x11.1.2.1)&&decide (x11.1.2.1≤(x11.1.1.length:Int))&&decide ((x11.1.1.length:Int)≤(x11.1.1.length:Int))then let x12:T6:=(sub x11.1.1 x11.1.2.1 (x11.1.1.length:Int));bif decide ((([]:List (T5×T5)).length+x12.length)*48≤roomy)then let x13:T6:=(([]:List (T5×T5))++x12);bif decide (0≤0)&&decide (0≤x11.1.2.1)&&decide (x11.1.2.1≤(x11.1.1.length:Int))then bif decide ((x13.length+(sub x11.1.1 0 x11.1.2.1).length)*48≤roomy)then some (((),()),((x13++(sub x11.1.1 0 x11.1.2.1)),()))else none else none else none else none,())
def U1 :af:=⟨74,⟨[(0,.c (.sl (.pair u1 u1)))],[],[]⟩,⟨[(0,.c (.row 4000000))],[(4000000,.row 71 (.pair u1 u1))],[]⟩,λk v=>f74 k v.1.1⟩
def VL (k:Nat):Full:=fl k 33 [B0] (cuts:=[(3,(GW k))])
theorem Tl (k:Nat):aF (VL k) (GW k) (au Tryz.f74 3):=λρ v nx=>⟨by kernel_rfl,λj=>by kernel_rfl⟩
theorem abr :SN U1:=so Tryz.func74 VL (λ_ j=>⟨JH.at j,trivial⟩) (λ_ _=>by kernel_rfl) (hob:=λk=>Eq.mpr (by kernel_rfl) (And.intro (Tl k) (trivial)))
def oi {ρ:Type}(k:Nat):Nat->T6->Int->T6->((T10->Option ρ)×Unit)->Option ρ|0,_,_,_,_=>none|j+1,v9,v10,v11,nx=>bif(decide (v10<(v9.length:Int)))then(aq v9 v10).bind λx12=>(f126 k x12.1.1 x12.1.2.1 x12.1.2.2 x12.2.1 x12.2.2.1 x12.2.2.2).bind λx13=>bif decide ((v11.length+[((x13.1.1.1,(x13.1.1.2.1,x13.1.1.2.2.1)),(x13.1.1.2.2.2.1,(x13.1.1.2.2.2.2.1,x13.1.1.2.2.2.2.2.1)))].length)*48≤roomy)then let x14:T6:=(v11++[((x13.1.1.1,(x13.1.1.2.1,x13.1.1.2.2.1)),(x13.1.1.2.2.2.1,(x13.1.1.2.2.2.2.1,x13.1.1.2.2.2.2.2.1)))]);oi k j v9 (wr .i64 (v10+1)) x14 nx else none else nx.1 (((),()),(v11,()))
def CV (k:Nat):Cut:=⟨⟨[(0,.c (.sl (.pair u1 u1))),(3,.c (.row 5000000)),(4,.c (.int .i64))],[(5000000,.row 113 (.pair u1 u1))],[]⟩,[(.exit 0,⟨[(3,.c (.row 5000000))],[(5000000,.row 113 (.pair u1 u1))],[]⟩)],λρ j v nx=>oi k j v.1.1 v.1.2.2.1 v.2.1 nx⟩
def f130 (k:Nat)(a1:T6):Option T10:=
 oi k k a1 0 ([]:List (T5×T5))
  (λx8:T10=>some (((),()),(x8.2.1,())),
  ())
def Ig :af:=⟨130,⟨[(0,.c (.sl (.pair u1 u1)))],[],[]⟩,⟨[(0,.c (.row 4000000))],[(4000000,.row 113 (.pair u1 u1))],[]⟩,λk v=>f130 k v.1.1⟩
def Q3 (k:Nat):Full:=fl k 21 [sB] (cuts:=[(3,(CV k))])
theorem NE (k:Nat):aF (Q3 k) (CV k) (au Tryz.f130 3):=λρ v nx=>⟨by kernel_rfl,λj=>by kernel_rfl⟩
theorem RR :SN Ig:=so Tryz.func130 Q3 (λ_ j=>⟨vA.at j,trivial⟩) (λ_ _=>by kernel_rfl) (hob:=λk=>Eq.mpr (by kernel_rfl) (And.intro (NE k) (trivial)))
def oh {ρ:Type}(k:Nat):Nat->T6->Int->(List Int)->(((T1×T12)->Option ρ)×((T17×Unit)->Option ρ)×Unit)->Option ρ|0,_,_,_,_=>none|j+1,v12,v13,v14,nx=>bif(decide (v13<(v12.length:Int)))then bif decide ((v12.length:Int)=0)then none else let x15:Int:=((wr .i64 (v13+1)).tmod (v12.length:Int));(aq v12 x15).bind λx16=>(aq v12 v13).bind λx17=>(f128 k x16.1.1 x16.1.2.1 x16.1.2.2 x16.2.1 x16.2.2.1 x16.2.2.2 x17.1.1 x17.1.2.1 x17.1.2.2 x17.2.1 x17.2.2.1 x17.2.2.2).bind λx18=>(f127 k x18.1.1.1 x18.1.1.2.1 x18.1.1.2.2.1 x18.1.1.2.2.2.1 x18.1.1.2.2.2.2.1 x18.1.1.2.2.2.2.2.1).bind λx19=>bif(decide (x19.1.1<0))then nx.2.1 (((),false,()),())else bif decide ((v14.length+[x19.1.1].length)*8≤roomy)then oh k j v12 (wr .i64 (v13+1)) (v14++[x19.1.1]) nx else none else nx.1 (((),()),(v14,()))
def CU (k:Nat):Cut:=⟨⟨[(0,.c (.sl (.pair u1 u1))),(4,.c (.row 5000000)),(5,.c (.int .i64))],[(5000000,.row 2 (.int .i64))],[]⟩,[(.exit 0,⟨[(4,.c (.row 5000000))],[(5000000,.row 2 (.int .i64))],[]⟩),(.ret,⟨[(2,.c (.lit .nils)),(3,.c .bool)],[],[]⟩)],λρ j v nx=>oh k j v.1.1 v.1.2.2.1 v.2.1 nx⟩
def f129 (k:Nat)(a1:T6):Option (T17×T12):=
 oh k k a1 0 ([]:List Int)
  (λx10:(T1×T12)=>some (((),true,()),(x10.2.1,())),
  λx11:(T17×Unit)=>some (((),x11.1.2.1,()),(([]:List Int),())),
  ())
def If :af:=⟨129,⟨[(0,.c (.sl (.pair u1 u1)))],[],[]⟩,⟨[(0,.c (.row 4000000)),(1,.c .bool)],[(4000000,.row 2 (.int .i64))],[]⟩,λk v=>f129 k v.1.1⟩
def Q2 (k:Nat):Full:=fl k 35 [qb,sC] (cuts:=[(3,(CU k))])
theorem ND (k:Nat):aF (Q2 k) (CU k) (au Tryz.f129 3):=λρ v nx=>⟨by kernel_rfl,λj=>by kernel_rfl⟩
theorem RQ :SN If:=so Tryz.func129 Q2 (λ_ j=>⟨tf.at j,vB.at j,trivial⟩) (λ_ _=>by kernel_rfl) (hob:=λk=>Eq.mpr (by kernel_rfl) (And.intro (ND k) (trivial)))
def pq {ρ:Type}(k:Nat):Nat->T6->Int->Int->((((T6×Int×Unit)×Unit)->Option ρ)×((T2×Unit)->Option ρ)×Unit)->Option ρ|0,_,_,_,_=>none|j+1,v33,v34,v35,nx=>bif(decide (v35<v34))then(aq v33 v35).bind λx36=>(f122 k x36.1.1 x36.1.2.1 x36.1.2.2 x36.2.1 x36.2.2.1 x36.2.2.2).bind λx37=>bif(!x37.1.1)then nx.2.1 ((false,()),())else bif(decide (v35>0))then(aq v33 0).bind λx38=>(aq v33 v35).bind λx39=>(f123 k x38.1.1 x38.1.2.1 x38.1.2.2 x38.2.1 x38.2.2.1 x38.2.2.2 x39.1.1 x39.1.2.1 x39.1.2.2 x39.2.1 x39.2.2.1 x39.2.2.2).bind λx40=>bif(decide (x40.1.1≥0))then nx.2.1 ((false,()),())else pq k j v33 v34 (wr .i64 (v35+1)) nx else pq k j v33 v34 (wr .i64 (v35+1)) nx else nx.1 ((v33,v34,()),())
def GX (k:Nat):Cut:=⟨⟨[(0,.c (.sl (.pair u1 u1))),(3,.c (.int .i64)),(4,.c (.int .i64))],[],[]⟩,[(.exit 0,⟨[(0,.c (.sl (.pair u1 u1))),(3,.c (.int .i64))],[],[]⟩),(.ret,⟨[(2,.c .bool)],[],[]⟩)],λρ j v nx=>pq k j v.1.1 v.1.2.1 v.1.2.2.1 nx⟩
def kw {ρ:Type}(k:Nat):Nat->Int->Int->Int->(List Int)->(((T0×Unit)->Option ρ)×((T2×Unit)->Option ρ)×Unit)->Option ρ|0,_,_,_,_,_=>none|j+1,v41,v42,v43,v44,nx=>bif(decide (v43<v41))then bif decide (v41=0)then none else bif decide (0≤((wr .i64 (v43+1)).tmod v41))&&decide (((wr .i64 (v43+1)).tmod v41)<(v44.length:Int))then(v44[((wr .i64 (v43+1)).tmod v41).toNat]?).bind λx45=>bif decide (0≤v43)&&decide (v43<(v44.length:Int))then(v44[v43.toNat]?).bind λx46=>(f131 k (wr .i64 (x45-x46))).bind λx47=>(f45 k x47.1.1 1 7).bind λx48=>bif(!x48.1.1)then nx.2.1 ((false,()),())else kw k j v41 (wr .i64 (v42+x47.1.1)) (wr .i64 (v43+1)) v44 nx else none else none else nx.1 ((v42,()),())
def D0 (k:Nat):Cut:=⟨⟨[(3,.c (.int .i64)),(5,.c (.row 5000000)),(7,.c (.int .i64)),(8,.c (.int .i64))],[(5000000,.row 2 (.int .i64))],[]⟩,[(.exit 2,⟨[(7,.c (.int .i64))],[],[]⟩),(.ret,⟨[(2,.c .bool)],[],[]⟩)],λρ j v nx=>kw k j v.1.1 v.1.2.2.1 v.1.2.2.2.1 v.2.1 nx⟩
def f75 (k:Nat)(a1:T6):Option (T2×Unit):=bif(decide ((a1.length:Int)<3))then some ((false,()),())else bif(decide ((a1.length:Int)>16))then some ((false,()),())else pq k k a1 (a1.length:Int) 0 (λx27:((T6×Int×Unit)×Unit)=>(f130 k x27.1.1).bind λx28=>(f129 k x28.2.1).bind λx29=>bif(!x29.1.2.1)then some ((false,()),())else kw k k x27.1.2.1 0 0 x29.2.1 (λx30:(T0×Unit)=>some (((x30.1.1==16),()),()),λx31:(T2×Unit)=>some ((x31.1.1,()),()),()),λx32:(T2×Unit)=>some ((x32.1.1,()),()),())
def U2 :af:=ee 75 [(0,.c (.sl (.pair u1 u1)))] [(0,.c .bool)] λk v=>f75 k v.1.1
def M4 (k:Nat):Full:=fl k 78 [Ie,B0,Ig,If,xP,wQ] (cuts:=[(5,(GX k)),(14,(D0 k))])
theorem Tm (k:Nat):aF (M4 k) (GX k) (au Tryz.f75 5):=λρ v nx=>⟨by kernel_rfl,λj=>by kernel_rfl⟩
theorem OJ (k:Nat):aF (M4 k) (D0 k) (au Tryz.f75 14):=λρ v nx=>⟨by kernel_rfl,λj=>by kernel_rfl⟩
theorem abt :SN U2:=so Tryz.func75 M4 (λ_ j=>⟨RP.at j,JH.at j,RR.at j,RQ.at j,Ci.at j,zK.at j,trivial⟩) (λ_ _=>by kernel_rfl) (hob:=λk=>Eq.mpr (by kernel_rfl) (And.intro (Tm k) (And.intro (OJ k) (trivial))))
def rM {ρ:Type}(k:Nat):Nat->(List Int)->Int->(List Int)->(((T1×T12)->Option ρ)×Unit)->Option ρ|0,_,_,_,_=>none|j+1,v9,v10,v11,nx=>bif(decide (v10>0))then(aq v9 v10).bind λx12=>bif decide ((v11.length+[x12].length)*8≤roomy)then rM k j v9 (wr .i64 (v10-1)) (v11++[x12]) nx else none else nx.1 (((),()),(v11,()))
def GY (k:Nat):Cut:=⟨⟨[(0,.c (.sl (.int .i64))),(3,.c (.row 5000000)),(4,.c (.int .i64))],[(5000000,.row 2 (.int .i64))],[]⟩,[(.exit 0,⟨[(3,.c (.row 5000000))],[(5000000,.row 2 (.int .i64))],[]⟩)],λρ j v nx=>rM k j v.1.1 v.1.2.2.1 v.2.1 nx⟩
def f76 (k:Nat)(a1:(List Int)):Option (T1×T12):=
 (aq a1 0).bind λx7=>
 rM k k a1 (wr .i64 ((a1.length:Int)-1)) ([x7])
  (λx8:(T1×T12)=>some (((),()),(x8.2.1,())),
  ())
def U3 :af:=⟨76,⟨[(0,.c (.sl (.int .i64)))],[],[]⟩,⟨[(0,.c (.row 4000000))],[(4000000,.row 2 (.int .i64))],[]⟩,λk v=>f76 k v.1.1⟩
def VM (k:Nat):Full:=fl k 24 [] (cuts:=[(3,(GY k))])
theorem Tn (k:Nat):aF (VM k) (GY k) (au Tryz.f76 3):=λρ v nx=>⟨by kernel_rfl,λj=>by kernel_rfl⟩
theorem abu :SN U3:=so Tryz.func76 VM (λ_ _=>trivial) (λ_ _=>by kernel_rfl) (hob:=λk=>Eq.mpr (by kernel_rfl) (And.intro (Tn k) (trivial)))
def rN {ρ:Type}(k:Nat):Nat->T6->Int->T6->((T10->Option ρ)×Unit)->Option ρ|0,_,_,_,_=>none|j+1,v7,v8,v9,nx=>bif(decide (v8≥0))then(aq v7 v8).bind λx10=>bif decide ((v9.length+[x10].length)*48≤roomy)then rN k j v7 (wr .i64 (v8-1)) (v9++[x10]) nx else none else nx.1 (((),()),(v9,()))
def GZ (k:Nat):Cut:=⟨⟨[(0,.c (.sl (.pair u1 u1))),(3,.c (.row 5000000)),(4,.c (.int .i64))],[(5000000,.row 71 (.pair u1 u1))],[]⟩,[(.exit 0,⟨[(3,.c (.row 5000000))],[(5000000,.row 71 (.pair u1 u1))],[]⟩)],λρ j v nx=>rN k j v.1.1 v.1.2.2.1 v.2.1 nx⟩
def f77 (k:Nat)(a1:T6):Option T10:=
 rN k k a1 (wr .i64 ((a1.length:Int)-1)) ([]:List (T5×T5))
  (λx6:T10=>some (((),()),(x6.2.1,())),
  ())
def U4 :af:=⟨77,⟨[(0,.c (.sl (.pair u1 u1)))],[],[]⟩,⟨[(0,.c (.row 4000000))],[(4000000,.row 71 (.pair u1 u1))],[]⟩,λk v=>f77 k v.1.1⟩
def VN (k:Nat):Full:=fl k 21 [] (cuts:=[(3,(GZ k))])
theorem To (k:Nat):aF (VN k) (GZ k) (au Tryz.f77 3):=λρ v nx=>⟨by kernel_rfl,λj=>by kernel_rfl⟩
theorem abv :SN U4:=so Tryz.func77 VN (λ_ _=>trivial) (λ_ _=>by kernel_rfl) (hob:=λk=>Eq.mpr (by kernel_rfl) (And.intro (To k) (trivial)))
def lT {ρ:Type}(k:Nat):Nat->T6->(List Int)->Int->Int->Int->Int->Int->Int->Int->Int->(((T0×Unit)->Option ρ)×Unit)->Option ρ|0,_,_,_,_,_,_,_,_,_,_,_=>none|j+1,v18,v19,v20,v21,v22,v23,v24,v25,v26,v27,nx=>bif(decide (v21<(v18.length:Int)))then(aq v19 v21).bind λx28=>(aq v18 v21).bind λx29=>(f128 k v22 v23 v24 v25 v26 v27 x29.1.1 x29.1.2.1 x29.1.2.2 x29.2.1 x29.2.2.1 x29.2.2.2).bind λx30=>(f181 k (wr .i64 (x28+4)) x30.1.1.1 x30.1.1.2.1 x30.1.1.2.2.1 x30.1.1.2.2.2.1 x30.1.1.2.2.2.2.1 x30.1.1.2.2.2.2.2.1).bind λx31=>(f183 k x31.1.1.1 x31.1.1.2.1 x31.1.1.2.2.1).bind λx32=>bif(decide (x32.1.1<v20))then lT k j v18 v19 x32.1.1 (wr .i64 (v21+1)) v22 v23 v24 v25 v26 v27 nx else lT k j v18 v19 v20 (wr .i64 (v21+1)) v22 v23 v24 v25 v26 v27 nx else nx.1 ((v20,()),())
def CW (k:Nat):Cut:=⟨⟨[(0,.c (.sl (.pair u1 u1))),(1,.c (.sl (.int .i64))),(5,.c (.box 5000000)),(7,.c (.int .i64)),(8,.c (.int .i64))],[(5000000,.box 113 k1)],[]⟩,[(.exit 0,⟨[(7,.c (.int .i64))],[],[]⟩)],λρ j v nx=>lT k j v.1.1 v.1.2.1 v.1.2.2.2.1 v.1.2.2.2.2.1 v.2.1.1 v.2.1.2.1 v.2.1.2.2.1 v.2.1.2.2.2.1 v.2.1.2.2.2.2.1 v.2.1.2.2.2.2.2.1 nx⟩
def f132 (k:Nat)(a1:T6)(a2:(List Int))(a3 a4 a5 a6 a7 a8:Int):Option (T0×Unit):=
 lT k k a1 a2 1 0 a3 a4 a5 a6 a7 a8
  (λx17:(T0×Unit)=>some ((x17.1.1,()),()),
  ())
def PL :af:=ee 132 [(0,.c (.sl (.pair u1 u1))),(1,.c (.sl (.int .i64))),(2,.agg k1)] [(0,.c (.int .i64))] λk v=>f132 k v.1.1 v.1.2.1 v.1.2.2.1.1 v.1.2.2.1.2.1 v.1.2.2.1.2.2.1 v.1.2.2.1.2.2.2.1 v.1.2.2.1.2.2.2.2.1 v.1.2.2.1.2.2.2.2.2.1
def Q4 (k:Nat):Full:=fl k 34 [qb,sD,nV] (cuts:=[(3,(CW k))])
theorem NF (k:Nat):aF (Q4 k) (CW k) (au Tryz.f132 3):=λρ v nx=>⟨by kernel_rfl,λj=>by kernel_rfl⟩
theorem Yx :SN PL:=so Tryz.func132 Q4 (λ_ j=>⟨tf.at j,vC.at j,qq.at j,trivial⟩) (λ_ _=>by kernel_rfl) (hob:=λk=>Eq.mpr (by kernel_rfl) (And.intro (NF k) (trivial)))
def oO {ρ:Type}(k:Nat):Nat->Int->Int->Int->Int->Int->Int->Int->Int->Int->Int->((((Unit×Unit×Int×Unit×Unit)×(T19×T19×T19×Unit))->Option ρ)×Unit)->Option ρ|0,_,_,_,_,_,_,_,_,_,_,_=>none|j+1,v32,v33,v34,v35,v36,v37,v38,v39,v40,v41,nx=>bif((v32.tmod 2)==0)then oO k j (wr .i64 (v32.tdiv 2)) v33 v34 v35 v36 v37 v38 v39 v40 (wr .i64 (v41+1)) nx else nx.1 (((),(),v32,(),()),((v33,v34,v35,()),(v36,v37,v38,()),(v39,v40,v41,()),()))
def DI (k:Nat):Cut:=⟨⟨[(3,.c (.box 5000000)),(4,.c (.box 5000001)),(6,.c (.int .i64)),(7,.c (.box 5000002))],[(5000000,.box 111 k0),(5000001,.box 111 k0),(5000002,.box 111 k0)],[]⟩,[(.exit 0,⟨[(3,.c (.box 5000000)),(4,.c (.box 5000001)),(6,.c (.int .i64)),(7,.c (.box 5000002))],[(5000000,.box 111 k0),(5000001,.box 111 k0),(5000002,.box 111 k0)],[]⟩)],λρ j v nx=>oO k j v.1.2.2.1 v.2.1.1 v.2.1.2.1 v.2.1.2.2.1 v.2.2.1.1 v.2.2.1.2.1 v.2.2.1.2.2.1 v.2.2.2.1.1 v.2.2.2.1.2.1 v.2.2.2.1.2.2.1 nx⟩
def mv {ρ:Type}(k:Nat):Nat->Int->Int->Int->Int->Int->Int->Int->((((Unit×Unit×Unit)×T21)->Option ρ)×Unit)->Option ρ|0,_,_,_,_,_,_,_,_=>none|j+1,v42,v43,v44,v45,v46,v47,v48,nx=>bif(decide (v42>0))then bif(decide (v48>0))then mv k j (wr .i64 (v42-1)) v43 v44 v45 v46 v47 (wr .i64 (v48-1)) nx else mv k j (wr .i64 (v42-1)) v43 v44 v45 (wr .i64 (v46*2)) (wr .i64 (v47*2)) v48 nx else nx.1 (((),(),()),((v43,v44,v45,()),(v46,v47,v48,()),()))
def Aw (k:Nat):Cut:=⟨⟨[(4,.c (.box 5000000)),(7,.c (.box 5000001)),(8,.c (.int .i64))],[(5000000,.box 111 k0),(5000001,.box 111 k0)],[]⟩,[(.exit 2,⟨[(4,.c (.box 5000000)),(7,.c (.box 5000001))],[(5000000,.box 111 k0),(5000001,.box 111 k0)],[]⟩)],λρ j v nx=>mv k j v.1.2.2.1 v.2.1.1 v.2.1.2.1 v.2.1.2.2.1 v.2.2.1.1 v.2.2.1.2.1 v.2.2.1.2.2.1 nx⟩
def f222 (k:Nat)(a1 a2 a3 a4 a5 a6:Int):Option ((T19×Bool×Unit)×Unit):=let x25:Int:=(wr .i64 ((wr .i64 (a4*a4))-(wr .i64 ((wr .i64 (2*a5))*a5))));bif(x25==0)then some (((0,0,0,()),false,()),())else let x26:Int:=(wr .i64 ((wr .i64 (a1*a4))-(wr .i64 ((wr .i64 (2*a2))*a5))));let x27:Int:=(wr .i64 ((wr .i64 (a2*a4))-(wr .i64 (a1*a5))));oO k k x25 a4 a5 a6 0 0 0 x26 x27 a3 (λx29:((Unit×Unit×Int×Unit×Unit)×(T19×T19×T19×Unit))=>bif decide (x29.1.2.2.1=0)then none else bif((x29.2.2.2.1.1.tmod x29.1.2.2.1) !=0)then some (((0,0,0,()),false,()),())else bif decide (x29.1.2.2.1=0)then none else bif((x29.2.2.2.1.2.1.tmod x29.1.2.2.1) !=0)then some (((0,0,0,()),false,()),())else bif decide (x29.1.2.2.1=0)then none else bif decide (x29.1.2.2.1=0)then none else mv k k x29.2.1.2.2.1 x29.2.2.1.1 x29.2.2.1.2.1 x29.2.2.1.2.2.1 (wr .i64 (x29.2.2.2.1.1.tdiv x29.1.2.2.1)) (wr .i64 (x29.2.2.2.1.2.1.tdiv x29.1.2.2.1)) x29.2.2.2.1.2.2.1 (λx30:((Unit×Unit×Unit)×T21)=>(f238 k x30.2.2.1.1 x30.2.2.1.2.1 x30.2.2.1.2.2.1).bind λx31=>some (((x31.1.1.1,x31.1.1.2.1,x31.1.1.2.2.1,()),true,()),()),()),())
def QC :af:=ee 222 [(0,.agg k0),(1,.agg k0)] [(0,.agg k0),(1,.c .bool)] λk v=>f222 k v.1.1.1 v.1.1.2.1 v.1.1.2.2.1 v.1.2.1.1 v.1.2.1.2.1 v.1.2.1.2.2.1
def I7 (k:Nat):Full:=fl k 105 [Cc] (cuts:=[(5,(DI k)),(13,(Aw k))])
theorem Oo (k:Nat):aF (I7 k) (DI k) (au Tryz.f222 5):=λρ v nx=>⟨by kernel_rfl,λj=>by kernel_rfl⟩
theorem Lu (k:Nat):aF (I7 k) (Aw k) (au Tryz.f222 13):=λρ v nx=>⟨by kernel_rfl,λj=>by kernel_rfl⟩
theorem Zq :SN QC:=so Tryz.func222 I7 (λ_ j=>⟨JQ.at j,trivial⟩) (λ_ _=>by kernel_rfl) (hob:=λk=>Eq.mpr (by kernel_rfl) (And.intro (Oo k) (And.intro (Lu k) (trivial))))
def f189 (k:Nat)(a1 a2 a3 a4 a5 a6 a7 a8:Int):Option T28:=
 (f217 k (wr .i64 (a1+4))).bind λx16=>
 (f126 k x16.1.1.1 x16.1.1.2.1 x16.1.1.2.2.1 x16.1.1.2.2.2.1 x16.1.1.2.2.2.2.1 x16.1.1.2.2.2.2.2.1).bind λx17=>
 (f217 k (wr .i64 (a5+4))).bind λx18=>
 (f126 k x18.1.1.1 x18.1.1.2.1 x18.1.1.2.2.1 x18.1.1.2.2.2.1 x18.1.1.2.2.2.2.1 x18.1.1.2.2.2.2.2.1).bind λx19=>
 (f219 k x17.1.1.1 x17.1.1.2.1 x17.1.1.2.2.1 x19.1.1.2.2.2.1 x19.1.1.2.2.2.2.1 x19.1.1.2.2.2.2.2.1).bind λx20=>
 (f219 k x17.1.1.2.2.2.1 x17.1.1.2.2.2.2.1 x17.1.1.2.2.2.2.2.1 x19.1.1.1 x19.1.1.2.1 x19.1.1.2.2.1).bind λx21=>
 (f184 k x20.1.1.1 x20.1.1.2.1 x20.1.1.2.2.1 x21.1.1.1 x21.1.1.2.1 x21.1.1.2.2.1).bind λx22=>
 (f219 k a2 a3 a4 x19.1.1.2.2.2.1 x19.1.1.2.2.2.2.1 x19.1.1.2.2.2.2.2.1).bind λx23=>
 (f219 k a6 a7 a8 x17.1.1.2.2.2.1 x17.1.1.2.2.2.2.1 x17.1.1.2.2.2.2.2.1).bind λx24=>
 (f184 k x23.1.1.1 x23.1.1.2.1 x23.1.1.2.2.1 x24.1.1.1 x24.1.1.2.1 x24.1.1.2.2.1).bind λx25=>
 (f222 k x25.1.1.1 x25.1.1.2.1 x25.1.1.2.2.1 x22.1.1.1 x22.1.1.2.1 x22.1.1.2.2.1).bind λx26=>
 (f219 k a6 a7 a8 x17.1.1.1 x17.1.1.2.1 x17.1.1.2.2.1).bind λx27=>
 (f219 k a2 a3 a4 x19.1.1.1 x19.1.1.2.1 x19.1.1.2.2.1).bind λx28=>
 (f184 k x27.1.1.1 x27.1.1.2.1 x27.1.1.2.2.1 x28.1.1.1 x28.1.1.2.1 x28.1.1.2.2.1).bind λx29=>
 (f222 k x29.1.1.1 x29.1.1.2.1 x29.1.1.2.2.1 x22.1.1.1 x22.1.1.2.1 x22.1.1.2.2.1).bind λx30=>
 some (((x26.1.1.1,x26.1.1.2.1,x26.1.1.2.2.1,x30.1.1.1,x30.1.1.2.1,x30.1.1.2.2.1,()),()),())
def Iw :af:=ee 189 [(0,.agg k3),(1,.agg k3)] [(0,.agg k1)] λk v=>f189 k v.1.1.1 v.1.1.2.1 v.1.1.2.2.1 v.1.1.2.2.2.1 v.1.2.1.1 v.1.2.1.2.1 v.1.2.1.2.2.1 v.1.2.1.2.2.2.1
def XO (k:Nat):Full:=fl k 68 [IA,sB,IC,nW,QC] (touch:=[(3,[(12,[7])]),(4,[(17,[8])]),(5,[(17,[10])])])
theorem R6 :SN Iw:=so Tryz.func189 XO (λ_ j=>⟨Sa.at j,vA.at j,Sc.at j,qs.at j,Zq.at j,trivial⟩) (λ_ _=>by kernel_rfl)
def ma {ρ:Type}(k:Nat)(v112:T6)(v113:Int)(v114:Bool)(v115 v116 v117 v118 v119 v120 v121:Int)(v122:T6)(v123 v124 v125 v126 v127 v128 v129 v130 v131 v132 v133 v134:Int)(nx:(((T30×(T24×T6×Unit))->Option ρ)×Unit)):Option ρ:=bif(decide ((wr .i64 (v116*v117))<0))then(f128 k v129 v130 v131 v132 v133 v134 v123 v124 v125 v126 v127 v128).bind λx135=>(f127 k x135.1.1.1 x135.1.1.2.1 x135.1.1.2.2.1 x135.1.1.2.2.2.1 x135.1.1.2.2.2.2.1 x135.1.1.2.2.2.2.2.1).bind λx136=>(f187 k v123 v124 v125 v126 v127 v128 x136.1.1).bind λx137=>(f189 k x137.1.1.1 x137.1.1.2.1 x137.1.1.2.2.1 x137.1.1.2.2.2.1 v118 v119 v120 v121).bind λx138=>bif decide ((v122.length+[((x138.1.1.1,(x138.1.1.2.1,x138.1.1.2.2.1)),(x138.1.1.2.2.2.1,(x138.1.1.2.2.2.2.1,x138.1.1.2.2.2.2.2.1)))].length)*48≤roomy)then let x139:T6:=(v122++[((x138.1.1.1,(x138.1.1.2.1,x138.1.1.2.2.1)),(x138.1.1.2.2.2.1,(x138.1.1.2.2.2.2.1,x138.1.1.2.2.2.2.2.1)))]);nx.1 ((v112,v113,(),(),v114,v115,()),((v118,v119,v120,v121,()),x139,()))else none else nx.1 ((v112,v113,(),(),v114,v115,()),((v118,v119,v120,v121,()),v122,()))
def Am :Cut:=⟨⟨[(0,.c (.sl (.pair u1 u1))),(2,.c (.int .i64)),(4,.c (.box 5000000)),(7,.c (.row 5000001)),(8,.c .bool),(9,.c (.int .i64)),(10,.c (.box 5000002)),(11,.c (.box 5000003)),(12,.c (.int .i64)),(13,.c (.int .i64))],[(5000000,.box 199 k3),(5000001,.row 113 (.pair u1 u1)),(5000002,.box 113 k1),(5000003,.box 113 k1)],[]⟩,[(.normal,⟨[(0,.c (.sl (.pair u1 u1))),(2,.c (.int .i64)),(4,.c (.box 5000000)),(7,.c (.row 5000001)),(8,.c .bool),(9,.c (.int .i64))],[(5000000,.box 199 k3),(5000001,.row 113 (.pair u1 u1))],[]⟩)],λρ k v nx=>ma k v.1.1 v.1.2.1 v.1.2.2.2.2.1 v.1.2.2.2.2.2.1 v.1.2.2.2.2.2.2.2.2.1 v.1.2.2.2.2.2.2.2.2.2.1 v.2.1.1 v.2.1.2.1 v.2.1.2.2.1 v.2.1.2.2.2.1 v.2.2.1 v.2.2.2.1.1 v.2.2.2.1.2.1 v.2.2.2.1.2.2.1 v.2.2.2.1.2.2.2.1 v.2.2.2.1.2.2.2.2.1 v.2.2.2.1.2.2.2.2.2.1 v.2.2.2.2.1.1 v.2.2.2.2.1.2.1 v.2.2.2.2.1.2.2.1 v.2.2.2.2.1.2.2.2.1 v.2.2.2.2.1.2.2.2.2.1 v.2.2.2.2.1.2.2.2.2.2.1 nx⟩
def pc {ρ:Type}(k:Nat)(v87:T6)(v88:Int)(v89:Bool)(v90 v91 v92 v93 v94 v95 v96:Int)(v97:T6)(v98 v99 v100 v101 v102 v103 v104 v105 v106 v107 v108 v109:Int)(nx:(((T30×(T24×T6×Unit))->Option ρ)×Unit)):Option ρ:=bif v89 then ma k v87 v88 true v90 v91 v92 v93 v94 v95 v96 v97 v98 v99 v100 v101 v102 v103 v104 v105 v106 v107 v108 v109 (λx110:(T30×(T24×T6×Unit))=>nx.1 ((x110.1.1,x110.1.2.1,(),(),x110.1.2.2.2.2.1,x110.1.2.2.2.2.2.1,()),((x110.2.1.1,x110.2.1.2.1,x110.2.1.2.2.1,x110.2.1.2.2.2.1,()),x110.2.2.1,())),())else ma k v87 v88 (decide (v91>0)) v90 v91 v92 v93 v94 v95 v96 v97 v98 v99 v100 v101 v102 v103 v104 v105 v106 v107 v108 v109 (λx111:(T30×(T24×T6×Unit))=>nx.1 ((x111.1.1,x111.1.2.1,(),(),x111.1.2.2.2.2.1,x111.1.2.2.2.2.2.1,()),((x111.2.1.1,x111.2.1.2.1,x111.2.1.2.2.1,x111.2.1.2.2.2.1,()),x111.2.2.1,())),())
def Al :Cut:=⟨⟨[(0,.c (.sl (.pair u1 u1))),(2,.c (.int .i64)),(4,.c (.box 5000000)),(7,.c (.row 5000001)),(8,.c .bool),(9,.c (.int .i64)),(10,.c (.box 5000002)),(11,.c (.box 5000003)),(12,.c (.int .i64)),(13,.c (.int .i64))],[(5000000,.box 199 k3),(5000001,.row 113 (.pair u1 u1)),(5000002,.box 113 k1),(5000003,.box 113 k1)],[]⟩,[(.normal,⟨[(0,.c (.sl (.pair u1 u1))),(2,.c (.int .i64)),(4,.c (.box 5000000)),(7,.c (.row 5000001)),(8,.c .bool),(9,.c (.int .i64))],[(5000000,.box 199 k3),(5000001,.row 113 (.pair u1 u1))],[]⟩)],λρ k v nx=>pc k v.1.1 v.1.2.1 v.1.2.2.2.2.1 v.1.2.2.2.2.2.1 v.1.2.2.2.2.2.2.2.2.1 v.1.2.2.2.2.2.2.2.2.2.1 v.2.1.1 v.2.1.2.1 v.2.1.2.2.1 v.2.1.2.2.2.1 v.2.2.1 v.2.2.2.1.1 v.2.2.2.1.2.1 v.2.2.2.1.2.2.1 v.2.2.2.1.2.2.2.1 v.2.2.2.1.2.2.2.2.1 v.2.2.2.1.2.2.2.2.2.1 v.2.2.2.2.1.1 v.2.2.2.2.1.2.1 v.2.2.2.2.1.2.2.1 v.2.2.2.2.1.2.2.2.1 v.2.2.2.2.1.2.2.2.2.1 v.2.2.2.2.1.2.2.2.2.2.1 nx⟩
def kn {ρ:Type}(k:Nat):Nat->T6->Int->Bool->Int->Int->Int->Int->Int->T6->(((T17×(T6×Unit))->Option ρ)×Unit)->Option ρ|0,_,_,_,_,_,_,_,_,_,_=>none|j+1,v71,v72,v73,v74,v75,v76,v77,v78,v79,nx=>bif(decide (v74<(v71.length:Int)))then(aq v71 v74).bind λx80=>bif decide ((v71.length:Int)=0)then none else let x81:Int:=((wr .i64 (v74+1)).tmod (v71.length:Int));(aq v71 x81).bind λx82=>(f179 k v75 v76 v77 v78 x80.1.1 x80.1.2.1 x80.1.2.2 x80.2.1 x80.2.2.1 x80.2.2.2).bind λx83=>(f179 k v75 v76 v77 v78 x82.1.1 x82.1.2.1 x82.1.2.2 x82.2.1 x82.2.2.1 x82.2.2.2).bind λx84=>bif(decide ((wr .i64 (v72*x83.1.1))≥0))then bif decide ((v79.length+[x80].length)*48≤roomy)then pc k v71 v72 v73 v74 (wr .i64 (v72*x83.1.1)) (wr .i64 (v72*x84.1.1)) v75 v76 v77 v78 (v79++[x80]) x80.1.1 x80.1.2.1 x80.1.2.2 x80.2.1 x80.2.2.1 x80.2.2.2 x82.1.1 x82.1.2.1 x82.1.2.2 x82.2.1 x82.2.2.1 x82.2.2.2 (λx85:(T30×(T24×T6×Unit))=>kn k j x85.1.1 x85.1.2.1 x85.1.2.2.2.2.1 (wr .i64 (x85.1.2.2.2.2.2.1+1)) x85.2.1.1 x85.2.1.2.1 x85.2.1.2.2.1 x85.2.1.2.2.2.1 x85.2.2.1 nx,())else none else pc k v71 v72 v73 v74 (wr .i64 (v72*x83.1.1)) (wr .i64 (v72*x84.1.1)) v75 v76 v77 v78 v79 x80.1.1 x80.1.2.1 x80.1.2.2 x80.2.1 x80.2.2.1 x80.2.2.2 x82.1.1 x82.1.2.1 x82.1.2.2 x82.2.1 x82.2.2.1 x82.2.2.2 (λx86:(T30×(T24×T6×Unit))=>kn k j x86.1.1 x86.1.2.1 x86.1.2.2.2.2.1 (wr .i64 (x86.1.2.2.2.2.2.1+1)) x86.2.1.1 x86.2.1.2.1 x86.2.1.2.2.1 x86.2.1.2.2.2.1 x86.2.2.1 nx,())else nx.1 (((),v73,()),(v79,()))
def Di (k:Nat):Cut:=⟨⟨[(0,.c (.sl (.pair u1 u1))),(2,.c (.int .i64)),(4,.c (.box 5000000)),(7,.c (.row 5000001)),(8,.c .bool),(9,.c (.int .i64))],[(5000000,.box 199 k3),(5000001,.row 113 (.pair u1 u1))],[]⟩,[(.exit 0,⟨[(7,.c (.row 5000000)),(8,.c .bool)],[(5000000,.row 113 (.pair u1 u1))],[]⟩)],λρ j v nx=>kn k j v.1.1 v.1.2.1 v.1.2.2.2.2.1 v.1.2.2.2.2.2.1 v.2.1.1 v.2.1.2.1 v.2.1.2.2.1 v.2.1.2.2.2.1 v.2.2.1 nx⟩
def f188 (k:Nat)(a1:T6)(a2 a3 a4 a5 a6:Int):Option T10:=kn k k a1 a6 false 0 a2 a3 a4 a5 ([]:List (T5×T5)) (λx70:(T17×(T6×Unit))=>bif(!x70.1.2.1)then some (((),()),(([]:List (T5×T5)),()))else some (((),()),(x70.2.1,())),())
def Qe :af:=⟨188,⟨[(0,.c (.sl (.pair u1 u1))),(1,.agg k3),(2,.c (.int .i64))],[],[]⟩,⟨[(0,.c (.row 4000000))],[(4000000,.row 113 (.pair u1 u1))],[]⟩,λk v=>f188 k v.1.1 v.1.2.1.1 v.1.2.1.2.1 v.1.2.1.2.2.1 v.1.2.1.2.2.2.1 v.1.2.2.1⟩
def Ce (k:Nat):Full:=fl k 73 [B9,qb,sC,Ca,Iw] (cuts:=[(4,(Di k))]) (joins:=[(13,Am),(12,Al)]) (touch:=[(14,[(10,[5000001])])])
theorem Lj (k:Nat):dh (Ce k) Am (cY Tryz.f188 13):=λρ v nx=>by kernel_rfl
theorem Li (k:Nat):dh (Ce k) Al (cY Tryz.f188 12):=λρ v nx=>by kernel_rfl
theorem NY (k:Nat):aF (Ce k) (Di k) (au Tryz.f188 4):=λρ v nx=>⟨by kernel_rfl,λj=>by kernel_rfl⟩
theorem Y2 :SN Qe:=so Tryz.func188 Ce (λ_ j=>⟨JN.at j,tf.at j,vB.at j,JO.at j,R6.at j,trivial⟩) (λ_ _=>by kernel_rfl) (hob:=λk=>Eq.mpr (by kernel_rfl) (And.intro (Lj k) (And.intro (Li k) (And.intro (NY k) (trivial)))))
def lU {ρ:Type}(k:Nat)(v142:T6)(v143 v144 v145 v146 v147 v148 v149 v150 v151 v152 v153 v154 v155 v156 v157 v158 v159 v160 v161 v162:Int)(v163:(List T5))(v164 v165 v166 v167 v168 v169 v170 v171 v172 v173 v174 v175:Int)(nx:((((T6×Unit×Unit×Int×Unit×Unit×Int×Unit)×(T27×T27×T24×(List T5)×Unit))->Option ρ)×Unit)):Option ρ:=bif(decide ((wr .i64 (v145*v146))<0))then(f128 k v170 v171 v172 v173 v174 v175 v164 v165 v166 v167 v168 v169).bind λx176=>(f127 k x176.1.1.1 x176.1.1.2.1 x176.1.1.2.2.1 x176.1.1.2.2.2.1 x176.1.1.2.2.2.2.1 x176.1.1.2.2.2.2.2.1).bind λx177=>(f187 k v164 v165 v166 v167 v168 v169 x177.1.1).bind λx178=>(f189 k x178.1.1.1 x178.1.1.2.1 x178.1.1.2.2.1 x178.1.1.2.2.2.1 v159 v160 v161 v162).bind λx179=>(f181 k v143 x179.1.1.1 x179.1.1.2.1 x179.1.1.2.2.1 x179.1.1.2.2.2.1 x179.1.1.2.2.2.2.1 x179.1.1.2.2.2.2.2.1).bind λx180=>bif decide ((v163.length+[(x180.1.1.1,(x180.1.1.2.1,x180.1.1.2.2.1))].length)*24≤roomy)then let x181:(List T5):=(v163++[(x180.1.1.1,(x180.1.1.2.1,x180.1.1.2.2.1))]);nx.1 ((v142,(),(),v143,(),(),v144,()),((v147,v148,v149,v150,v151,v152,()),(v153,v154,v155,v156,v157,v158,()),(v159,v160,v161,v162,()),x181,()))else none else nx.1 ((v142,(),(),v143,(),(),v144,()),((v147,v148,v149,v150,v151,v152,()),(v153,v154,v155,v156,v157,v158,()),(v159,v160,v161,v162,()),v163,()))
def Ae :Cut:=⟨⟨[(0,.c (.sl (.pair u1 u1))),(4,.c (.box 5000000)),(5,.c (.box 5000001)),(7,.c (.int .i64)),(8,.c (.box 5000002)),(9,.c (.row 5000003)),(10,.c (.int .i64)),(11,.c (.box 5000004)),(12,.c (.box 5000005)),(13,.c (.int .i64)),(14,.c (.int .i64))],[(5000000,.box 113 k1),(5000001,.box 113 k1),(5000002,.box 199 k3),(5000003,.row 111 u1),(5000004,.box 113 k1),(5000005,.box 113 k1)],[]⟩,[(.normal,⟨[(0,.c (.sl (.pair u1 u1))),(4,.c (.box 5000000)),(5,.c (.box 5000001)),(7,.c (.int .i64)),(8,.c (.box 5000002)),(9,.c (.row 5000003)),(10,.c (.int .i64))],[(5000000,.box 113 k1),(5000001,.box 113 k1),(5000002,.box 199 k3),(5000003,.row 111 u1)],[]⟩)],λρ k v nx=>lU k v.1.1 v.1.2.2.2.1 v.1.2.2.2.2.2.2.1 v.1.2.2.2.2.2.2.2.2.2.1 v.1.2.2.2.2.2.2.2.2.2.2.1 v.2.1.1 v.2.1.2.1 v.2.1.2.2.1 v.2.1.2.2.2.1 v.2.1.2.2.2.2.1 v.2.1.2.2.2.2.2.1 v.2.2.1.1 v.2.2.1.2.1 v.2.2.1.2.2.1 v.2.2.1.2.2.2.1 v.2.2.1.2.2.2.2.1 v.2.2.1.2.2.2.2.2.1 v.2.2.2.1.1 v.2.2.2.1.2.1 v.2.2.2.1.2.2.1 v.2.2.2.1.2.2.2.1 v.2.2.2.2.1 v.2.2.2.2.2.1.1 v.2.2.2.2.2.1.2.1 v.2.2.2.2.2.1.2.2.1 v.2.2.2.2.2.1.2.2.2.1 v.2.2.2.2.2.1.2.2.2.2.1 v.2.2.2.2.2.1.2.2.2.2.2.1 v.2.2.2.2.2.2.1.1 v.2.2.2.2.2.2.1.2.1 v.2.2.2.2.2.2.1.2.2.1 v.2.2.2.2.2.2.1.2.2.2.1 v.2.2.2.2.2.2.1.2.2.2.2.1 v.2.2.2.2.2.2.1.2.2.2.2.2.1 nx⟩
def km {ρ:Type}(k:Nat):Nat->T6->Int->Int->Int->Int->Int->Int->Int->Int->Int->Int->Int->Int->Int->Int->Int->Int->Int->Int->(List T5)->((((Unit×Unit×Int×Unit×Unit)×(T27×T27×(List T5)×Unit))->Option ρ)×Unit)->Option ρ|0,_,_,_,_,_,_,_,_,_,_,_,_,_,_,_,_,_,_,_,_,_=>none|j+1,v113,v114,v115,v116,v117,v118,v119,v120,v121,v122,v123,v124,v125,v126,v127,v128,v129,v130,v131,v132,nx=>bif(decide (v115<(v113.length:Int)))then(aq v113 v115).bind λx133=>bif decide ((v113.length:Int)=0)then none else let x134:Int:=((wr .i64 (v115+1)).tmod (v113.length:Int));(aq v113 x134).bind λx135=>(f179 k v128 v129 v130 v131 x133.1.1 x133.1.2.1 x133.1.2.2 x133.2.1 x133.2.2.1 x133.2.2.2).bind λx136=>(f179 k v128 v129 v130 v131 x135.1.1 x135.1.2.1 x135.1.2.2 x135.2.1 x135.2.2.1 x135.2.2.2).bind λx137=>bif(x136.1.1==0)then(f181 k v114 x133.1.1 x133.1.2.1 x133.1.2.2 x133.2.1 x133.2.2.1 x133.2.2.2).bind λx138=>bif decide ((v132.length+[(x138.1.1.1,(x138.1.1.2.1,x138.1.1.2.2.1))].length)*24≤roomy)then let x139:(List T5):=(v132++[(x138.1.1.1,(x138.1.1.2.1,x138.1.1.2.2.1))]);lU k v113 v114 v115 x136.1.1 x137.1.1 v116 v117 v118 v119 v120 v121 v122 v123 v124 v125 v126 v127 v128 v129 v130 v131 x139 x133.1.1 x133.1.2.1 x133.1.2.2 x133.2.1 x133.2.2.1 x133.2.2.2 x135.1.1 x135.1.2.1 x135.1.2.2 x135.2.1 x135.2.2.1 x135.2.2.2 (λx140:((T6×Unit×Unit×Int×Unit×Unit×Int×Unit)×(T27×T27×T24×(List T5)×Unit))=>km k j x140.1.1 x140.1.2.2.2.1 (wr .i64 (x140.1.2.2.2.2.2.2.1+1)) x140.2.1.1 x140.2.1.2.1 x140.2.1.2.2.1 x140.2.1.2.2.2.1 x140.2.1.2.2.2.2.1 x140.2.1.2.2.2.2.2.1 x140.2.2.1.1 x140.2.2.1.2.1 x140.2.2.1.2.2.1 x140.2.2.1.2.2.2.1 x140.2.2.1.2.2.2.2.1 x140.2.2.1.2.2.2.2.2.1 x140.2.2.2.1.1 x140.2.2.2.1.2.1 x140.2.2.2.1.2.2.1 x140.2.2.2.1.2.2.2.1 x140.2.2.2.2.1 nx,())else none else lU k v113 v114 v115 x136.1.1 x137.1.1 v116 v117 v118 v119 v120 v121 v122 v123 v124 v125 v126 v127 v128 v129 v130 v131 v132 x133.1.1 x133.1.2.1 x133.1.2.2 x133.2.1 x133.2.2.1 x133.2.2.2 x135.1.1 x135.1.2.1 x135.1.2.2 x135.2.1 x135.2.2.1 x135.2.2.2 (λx141:((T6×Unit×Unit×Int×Unit×Unit×Int×Unit)×(T27×T27×T24×(List T5)×Unit))=>km k j x141.1.1 x141.1.2.2.2.1 (wr .i64 (x141.1.2.2.2.2.2.2.1+1)) x141.2.1.1 x141.2.1.2.1 x141.2.1.2.2.1 x141.2.1.2.2.2.1 x141.2.1.2.2.2.2.1 x141.2.1.2.2.2.2.2.1 x141.2.2.1.1 x141.2.2.1.2.1 x141.2.2.1.2.2.1 x141.2.2.1.2.2.2.1 x141.2.2.1.2.2.2.2.1 x141.2.2.1.2.2.2.2.2.1 x141.2.2.2.1.1 x141.2.2.2.1.2.1 x141.2.2.2.1.2.2.1 x141.2.2.2.1.2.2.2.1 x141.2.2.2.2.1 nx,())else nx.1 (((),(),v114,(),()),((v116,v117,v118,v119,v120,v121,()),(v122,v123,v124,v125,v126,v127,()),v132,()))
def CX (k:Nat):Cut:=⟨⟨[(0,.c (.sl (.pair u1 u1))),(4,.c (.box 5000000)),(5,.c (.box 5000001)),(7,.c (.int .i64)),(8,.c (.box 5000002)),(9,.c (.row 5000003)),(10,.c (.int .i64))],[(5000000,.box 113 k1),(5000001,.box 113 k1),(5000002,.box 199 k3),(5000003,.row 111 u1)],[]⟩,[(.exit 0,⟨[(4,.c (.box 5000000)),(5,.c (.box 5000001)),(7,.c (.int .i64)),(9,.c (.row 5000002))],[(5000000,.box 113 k1),(5000001,.box 113 k1),(5000002,.row 111 u1)],[]⟩)],λρ j v nx=>km k j v.1.1 v.1.2.2.2.1 v.1.2.2.2.2.2.2.1 v.2.1.1 v.2.1.2.1 v.2.1.2.2.1 v.2.1.2.2.2.1 v.2.1.2.2.2.2.1 v.2.1.2.2.2.2.2.1 v.2.2.1.1 v.2.2.1.2.1 v.2.2.1.2.2.1 v.2.2.1.2.2.2.1 v.2.2.1.2.2.2.2.1 v.2.2.1.2.2.2.2.2.1 v.2.2.2.1.1 v.2.2.2.1.2.1 v.2.2.2.1.2.2.1 v.2.2.2.1.2.2.2.1 v.2.2.2.2.1 nx⟩
def f133 (k:Nat)(a1:T6)(a2 a3 a4 a5 a6 a7 a8 a9 a10 a11 a12 a13:Int):Option (T2×Unit):=(f128 k a8 a9 a10 a11 a12 a13 a2 a3 a4 a5 a6 a7).bind λx92=>(f127 k x92.1.1.1 x92.1.1.2.1 x92.1.1.2.2.1 x92.1.1.2.2.2.1 x92.1.1.2.2.2.2.1 x92.1.1.2.2.2.2.2.1).bind λx93=>bif(decide (x93.1.1<0))then some ((false,()),())else(f187 k a2 a3 a4 a5 a6 a7 x93.1.1).bind λx94=>(f188 k a1 x94.1.1.1 x94.1.1.2.1 x94.1.1.2.2.1 x94.1.1.2.2.2.1 1).bind λx97=>bif((x97.2.1.length:Int)==0)then some ((false,()),())else(f188 k a1 x94.1.1.1 x94.1.1.2.1 x94.1.1.2.2.1 x94.1.1.2.2.2.1 (-1)).bind λx98=>bif((x98.2.1.length:Int)==0)then some ((false,()),())else km k k a1 x93.1.1 0 a2 a3 a4 a5 a6 a7 a8 a9 a10 a11 a12 a13 x94.1.1.1 x94.1.1.2.1 x94.1.1.2.2.1 x94.1.1.2.2.2.1 ([]:List T5) (λx100:((Unit×Unit×Int×Unit×Unit)×(T27×T27×(List T5)×Unit))=>bif decide (0≤0)&&decide (0<(x100.2.2.2.1.length:Int))then(x100.2.2.2.1[0]?).bind λx101=>bif decide (0≤1)&&decide (1<(x100.2.2.2.1.length:Int))then(x100.2.2.2.1[1]?).bind λx102=>(f182 k x101.1 x101.2.1 x101.2.2 x102.1 x102.2.1 x102.2.2).bind λx103=>(f181 k x100.1.2.2.1 x100.2.1.1 x100.2.1.2.1 x100.2.1.2.2.1 x100.2.1.2.2.2.1 x100.2.1.2.2.2.2.1 x100.2.1.2.2.2.2.2.1).bind λx104=>(f180 k x103.1.1.1 x103.1.1.2.1 x103.1.1.2.2.1 x104.1.1.1 x104.1.1.2.1 x104.1.1.2.2.1).bind λx105=>bif decide (0≤0)&&decide (0<(x100.2.2.2.1.length:Int))then(x100.2.2.2.1[0]?).bind λx106=>bif decide (0≤1)&&decide (1<(x100.2.2.2.1.length:Int))then(x100.2.2.2.1[1]?).bind λx107=>(f180 k x106.1 x106.2.1 x106.2.2 x107.1 x107.2.1 x107.2.2).bind λx108=>(f181 k x100.1.2.2.1 x100.2.2.1.1 x100.2.2.1.2.1 x100.2.2.1.2.2.1 x100.2.2.1.2.2.2.1 x100.2.2.1.2.2.2.2.1 x100.2.2.1.2.2.2.2.2.1).bind λx109=>(f182 k x108.1.1.1 x108.1.1.2.1 x108.1.1.2.2.1 x109.1.1.1 x109.1.1.2.1 x109.1.1.2.2.1).bind λx110=>(f184 k x110.1.1.1 x110.1.1.2.1 x110.1.1.2.2.1 x105.1.1.1 x105.1.1.2.1 x105.1.1.2.2.1).bind λx111=>(f183 k x111.1.1.1 x111.1.1.2.1 x111.1.1.2.2.1).bind λx112=>some (((decide (x112.1.1>0)),()),())else none else none else none else none,())
def PM :af:=ee 133 [(0,.c (.sl (.pair u1 u1))),(1,.agg k1),(2,.agg k1)] [(0,.c .bool)] λk v=>f133 k v.1.1 v.1.2.1.1 v.1.2.1.2.1 v.1.2.1.2.2.1 v.1.2.1.2.2.2.1 v.1.2.1.2.2.2.2.1 v.1.2.1.2.2.2.2.2.1 v.1.2.2.1.1 v.1.2.2.1.2.1 v.1.2.2.1.2.2.1 v.1.2.2.1.2.2.2.1 v.1.2.2.1.2.2.2.2.1 v.1.2.2.1.2.2.2.2.2.1
def IY (k:Nat):Full:=fl k 115 [qb,sC,Ca,Qe,B9,sD,Iw,Iu,It,nW,nV] (cuts:=[(9,(CX k))]) (joins:=[(17,Ae)]) (touch:=[(18,[(12,[5000003])]),(19,[(12,[15])]),(20,[(12,[16])])])
theorem La (k:Nat):dh (IY k) Ae (cY Tryz.f133 17):=λρ v nx=>by kernel_rfl
theorem NG (k:Nat):aF (IY k) (CX k) (au Tryz.f133 9):=λρ v nx=>⟨by kernel_rfl,λj=>by kernel_rfl⟩
theorem Yy :SN PM:=so Tryz.func133 IY (λ_ j=>⟨tf.at j,vB.at j,JO.at j,Y2.at j,JN.at j,vC.at j,R6.at j,R4.at j,R3.at j,qs.at j,qq.at j,trivial⟩) (λ_ _=>by kernel_rfl) (hob:=λk=>Eq.mpr (by kernel_rfl) (And.intro (La k) (And.intro (NG k) (trivial))))
def pu {ρ:Type}(k:Nat):Nat->T7->(List T9)->Int->T6->(List Int)->((T1->Option ρ)×((T2×Unit)->Option ρ)×Unit)->Option ρ|0,_,_,_,_,_,_=>none|j+1,v23,v24,v25,v26,v27,nx=>bif(decide (v25<(v24.length:Int)))then(aq v23.2 v25).bind λx29=>bif(x29.2.2==1)then pu k j v23 v24 (wr .i64 (v25+1)) v26 v27 nx else(aq v24 v25).bind λx30=>(f132 k v26 v27 x30.1.1.1 x30.1.1.2.1 x30.1.1.2.2 x30.1.2.1 x30.1.2.2.1 x30.1.2.2.2).bind λx31=>bif(decide (x31.1.1<0))then nx.2.1 ((false,()),())else(aq v24 v25).bind λx32=>(f132 k v26 v27 x32.2.1.1.1 x32.2.1.1.2.1 x32.2.1.1.2.2 x32.2.1.2.1 x32.2.1.2.2.1 x32.2.1.2.2.2).bind λx33=>bif(decide (x33.1.1<0))then nx.2.1 ((false,()),())else(aq v24 v25).bind λx34=>(aq v24 v25).bind λx35=>(f133 k v26 x34.1.1.1 x34.1.1.2.1 x34.1.1.2.2 x34.1.2.1 x34.1.2.2.1 x34.1.2.2.2 x35.2.1.1.1 x35.2.1.1.2.1 x35.2.1.1.2.2 x35.2.1.2.1 x35.2.1.2.2.1 x35.2.1.2.2.2).bind λx36=>bif(!x36.1.1)then nx.2.1 ((false,()),())else pu k j v23 v24 (wr .i64 (v25+1)) v26 v27 nx else nx.1 ((),())
def G0 (k:Nat):Cut:=⟨⟨[(0,.c (.dp u5)),(1,.c (.sl u4)),(7,.c (.row 5000000)),(8,.c (.row 5000001)),(10,.c (.int .i64))],[(5000000,.row 113 (.pair u1 u1)),(5000001,.row 2 (.int .i64))],[]⟩,[(.exit 0,⟨[],[],[]⟩),(.ret,⟨[(6,.c .bool)],[],[]⟩)],λρ j v nx=>pu k j v.1.1 v.1.2.1 v.1.2.2.2.2.1 v.2.1 v.2.2.1 nx⟩
def f78 (k:Nat)(a1:T7)(a2:(List T9))(a3:T6):Option (T2×Unit):=
 (f130 k a3).bind λx19=>
 (f129 k x19.2.1).bind λx20=>
 pu k k a1 a2 0 x19.2.1 x20.2.1
  (λx21:T1=>some ((true,()),()),
  λx22:(T2×Unit)=>some ((x22.1.1,()),()),
  ())
def U5 :af:=ee 78 [(0,.c (.dp u5)),(1,.c (.sl u4)),(2,.c (.sl (.pair u1 u1)))] [(0,.c .bool)] λk v=>f78 k v.1.1 v.1.2.1 v.1.2.2.1
def VO (k:Nat):Full:=fl k 68 [Ig,If,PL,PM] (cuts:=[(4,(G0 k))])
theorem Tp (k:Nat):aF (VO k) (G0 k) (au Tryz.f78 4):=λρ v nx=>⟨by kernel_rfl,λj=>by kernel_rfl⟩
theorem abw :SN U5:=so Tryz.func78 VO (λ_ j=>⟨RR.at j,RQ.at j,Yx.at j,Yy.at j,trivial⟩) (λ_ _=>by kernel_rfl) (hob:=λk=>Eq.mpr (by kernel_rfl) (And.intro (Tp k) (trivial)))
def rG {ρ:Type}(k:Nat)(v43:T7)(v44:(List T9))(v45:(List Int))(v46:T6)(nx:(((T22×(T6×(List Int)×Unit))->Option ρ)×Unit)):Option ρ:=(f75 k v46).bind λx47=>bif(!x47.1.1)then nx.1 (((),(),false,()),(([]:List (T5×T5)),([]:List Int),()))else(f78 k v43 v44 v46).bind λx48=>bif(!x48.1.1)then nx.1 (((),(),false,()),(([]:List (T5×T5)),([]:List Int),()))else nx.1 (((),(),true,()),(v46,v45,()))
def DT :Cut:=⟨⟨[(0,.c (.dp u5)),(5,.c (.row 5000000)),(7,.c (.row 5000001)),(9,.c (.row 5000002))],[(5000000,.row 115 u4),(5000001,.row 2 (.int .i64)),(5000002,.row 71 (.pair u1 u1))],[]⟩,[(.ret,⟨[(2,.c (.row 5000000)),(3,.c (.row 5000001)),(4,.c .bool)],[(5000000,.row 71 (.pair u1 u1)),(5000001,.row 2 (.int .i64))],[]⟩)],λρ k v nx=>rG k v.1.1 v.2.1 v.2.2.1 v.2.2.2.1 nx⟩
def f40 (k:Nat)(a1:T7):Option (T22×(T6×(List Int)×Unit)):=(f68 k a1).bind λx28=>bif(!x28.1.1)then some (((),(),false,()),(([]:List (T5×T5)),([]:List Int),()))else(f69 k a1).bind λx29=>bif(!x29.1.2.1)then some (((),(),false,()),(([]:List (T5×T5)),([]:List Int),()))else(f70 k a1).bind λx30=>bif(!x30.1.2.1)then some (((),(),false,()),(([]:List (T5×T5)),([]:List Int),()))else(f71 k a1 x29.2.1).bind λx33=>bif(!x33.1.1)then some (((),(),false,()),(([]:List (T5×T5)),([]:List Int),()))else(f72 k a1).bind λx34=>bif(!x34.1.1)then some (((),(),false,()),(([]:List (T5×T5)),([]:List Int),()))else(f73 k a1 x30.2.1).bind λx35=>(f74 k x35.2.1).bind λx36=>(f75 k x36.2.1).bind λx37=>bif(!x37.1.1)then(f76 k x30.2.1).bind λx38=>(f77 k x35.2.1).bind λx39=>(f74 k x39.2.1).bind λx40=>rG k a1 x29.2.1 x38.2.1 x40.2.1 (λx41:(T22×(T6×(List Int)×Unit))=>some (((),(),x41.1.2.2.1,()),(x41.2.1,x41.2.2.1,())),())else rG k a1 x29.2.1 x30.2.1 x36.2.1 (λx42:(T22×(T6×(List Int)×Unit))=>some (((),(),x42.1.2.2.1,()),(x42.2.1,x42.2.2.1,())),())
def ML :af:=⟨40,⟨[(0,.c (.dp u5))],[],[]⟩,⟨[(0,.c (.row 4000000)),(1,.c (.row 4000001)),(2,.c .bool)],[(4000000,.row 71 (.pair u1 u1)),(4000001,.row 2 (.int .i64))],[]⟩,λk v=>f40 k v.1.1⟩
def VA (k:Nat):Full:=fl k 63 [UU,UW,UX,UY,UZ,U0,U1,U2,U3,U4,U5] (joins:=[(14,DT)])
theorem OC (k:Nat):dh (VA k) DT (cY Tryz.f40 14):=λρ v nx=>by kernel_rfl
theorem Wt :SN ML:=so Tryz.func40 VA (λ_ j=>⟨abl.at j,abm.at j,abn.at j,abo.at j,abp.at j,abq.at j,abr.at j,abt.at j,abu.at j,abv.at j,abw.at j,trivial⟩) (λ_ _=>by kernel_rfl) (hob:=λk=>Eq.mpr (by kernel_rfl) (And.intro (OC k) (trivial)))
def f83 (k:Nat)(a1:(List Int))(a2 a3:Int):Option (T1×T12):=bif decide (0≤0)&&decide (0≤a2)&&decide (a2≤(a1.length:Int))then bif decide ((([]:List Int).length+(sub a1 0 a2).length)*8≤roomy)then bif decide (((([]:List Int)++(sub a1 0 a2)).length+[a3].length)*8≤roomy)then bif decide (0≤a2)&&decide (a2≤(a1.length:Int))&&decide ((a1.length:Int)≤(a1.length:Int))then bif decide ((((([]:List Int)++(sub a1 0 a2))++[a3]).length+(sub a1 a2 (a1.length:Int)).length)*8≤roomy)then let x2:(List Int):=(((([]:List Int)++(sub a1 0 a2))++[a3])++(sub a1 a2 (a1.length:Int)));some (((),()),(x2,()))else none else none else none else none else none
def U8 :af:=⟨83,⟨[(0,.c (.sl (.int .i64))),(1,.c (.int .i64)),(2,.c (.int .i64))],[],[]⟩,⟨[(0,.c (.row 4000000))],[(4000000,.row 2 (.int .i64))],[]⟩,λk v=>f83 k v.1.1 v.1.2.1 v.1.2.2.1⟩
def aan (k:Nat):Full:=fl k 22 []
theorem abz :SN U8:=so Tryz.func83 aan (λ_ _=>trivial) (λ_ _=>by kernel_rfl)
def oT {ρ:Type}(k:Nat):Nat->T7->Int->Int->Int->(List Int)->(List Int)->Int->Int->Int->Int->Int->Int->Int->Int->Int->Int->Int->Int->Int->((((T7×Int×Unit×Unit×Int×Unit×Int×Unit)×((List Int)×(List Int)×(Int×Int×Int×Int×Int×Int×Int×Int×Int×Int×Int×Int×Int×Unit)×Unit))->Option ρ)×Unit)->Option ρ|0,_,_,_,_,_,_,_,_,_,_,_,_,_,_,_,_,_,_,_,_=>none|j+1,v47,v48,v49,v50,v51,v52,v53,v54,v55,v56,v57,v58,v59,v60,v61,v62,v63,v64,v65,nx=>bif(decide (v50<(v52.length:Int)))then bif decide (0≤v50)&&decide (v50<(v52.length:Int))then(v52[v50.toNat]?).bind λx66=>bif(decide (x66<v65))then oT k j v47 v48 v49 (wr .i64 (v50+1)) v51 v52 v53 v54 v55 v56 v57 v58 v59 v60 v61 v62 v63 v64 v65 nx else nx.1 ((v47,v48,(),(),v49,(),v50,()),(v51,v52,(v53,v54,v55,v56,v57,v58,v59,v60,v61,v62,v63,v64,v65,()),()))else none else nx.1 ((v47,v48,(),(),v49,(),v50,()),(v51,v52,(v53,v54,v55,v56,v57,v58,v59,v60,v61,v62,v63,v64,v65,()),()))
def DU (k:Nat):Cut:=⟨⟨[(0,.c (.dp u5)),(1,.c (.int .i64)),(5,.c (.row 5000000)),(6,.c (.row 5000001)),(7,.c (.int .i64)),(9,.c (.box 5000002)),(10,.c (.int .i64))],[(5000000,.row 2 (.int .i64)),(5000001,.row 2 (.int .i64)),(5000002,.box 115 k7)],[]⟩,[(.exit 2,⟨[(0,.c (.dp u5)),(1,.c (.int .i64)),(5,.c (.row 5000000)),(6,.c (.row 5000001)),(7,.c (.int .i64)),(9,.c (.box 5000002)),(10,.c (.int .i64))],[(5000000,.row 2 (.int .i64)),(5000001,.row 2 (.int .i64)),(5000002,.box 115 k7)],[]⟩)],λρ j v nx=>oT k j v.1.1 v.1.2.1 v.1.2.2.2.2.1 v.1.2.2.2.2.2.2.1 v.2.1 v.2.2.1 v.2.2.2.1.1 v.2.2.2.1.2.1 v.2.2.2.1.2.2.1 v.2.2.2.1.2.2.2.1 v.2.2.2.1.2.2.2.2.1 v.2.2.2.1.2.2.2.2.2.1 v.2.2.2.1.2.2.2.2.2.2.1 v.2.2.2.1.2.2.2.2.2.2.2.1 v.2.2.2.1.2.2.2.2.2.2.2.2.1 v.2.2.2.1.2.2.2.2.2.2.2.2.2.1 v.2.2.2.1.2.2.2.2.2.2.2.2.2.2.1 v.2.2.2.1.2.2.2.2.2.2.2.2.2.2.2.1 v.2.2.2.1.2.2.2.2.2.2.2.2.2.2.2.2.1 nx⟩
def tZ {ρ:Type}(k:Nat)(v75:T7)(v76 v77:Int)(v78 v79:(List Int))(v80 v81 v82:Int)(nx:((((T7×Int×Unit×Unit×Int×Unit)×((List Int)×(List Int)×Unit))->Option ρ)×Unit)):Option ρ:=
 (aq v75.1 v76).bind λx83=>
 (f82 k v80 v81 v82 v76).bind λx84=>
 (aq v75.1 x84.1.1).bind λx85=>
 (f81 k x83.1.1 x83.1.2.1 x83.1.2.2 x83.2.1 x83.2.2.1 x83.2.2.2 x85.1.1 x85.1.2.1 x85.1.2.2 x85.2.1 x85.2.2.1 x85.2.2.2).bind λx86=>
 oT k k v75 v76 v77 0 v78 v79 x86.1.1.1 x86.1.1.2.1 x86.1.1.2.2.1 x86.1.1.2.2.2.1 x86.1.1.2.2.2.2.1 x86.1.1.2.2.2.2.2.1 x86.1.1.2.2.2.2.2.2.1 x86.1.1.2.2.2.2.2.2.2.1 x86.1.1.2.2.2.2.2.2.2.2.1 x86.1.1.2.2.2.2.2.2.2.2.2.1 x86.1.1.2.2.2.2.2.2.2.2.2.2.1 x86.1.1.2.2.2.2.2.2.2.2.2.2.2.1 x86.1.1.2.2.2.2.2.2.2.2.2.2.2.2.1
  (λx88:((T7×Int×Unit×Unit×Int×Unit×Int×Unit)×((List Int)×(List Int)×(Int×Int×Int×Int×Int×Int×Int×Int×Int×Int×Int×Int×Int×Unit)×Unit))=>
   (f83 k x88.2.1 x88.1.2.2.2.2.2.2.1 x88.1.2.2.2.2.1).bind λx89=>
   (f83 k x88.2.2.1 x88.1.2.2.2.2.2.2.1 x88.2.2.2.1.2.2.2.2.2.2.2.2.2.2.2.2.1).bind λx90=>
   nx.1 ((x88.1.1,x88.1.2.1,(),(),x88.1.2.2.2.2.1,()),(x89.2.1,x90.2.1,())),
  ())
def GB :Cut:=⟨⟨[(0,.c (.dp u5)),(1,.c (.int .i64)),(5,.c (.row 5000000)),(6,.c (.row 5000001)),(7,.c (.int .i64)),(8,.c (.box 5000002))],[(5000000,.row 2 (.int .i64)),(5000001,.row 2 (.int .i64)),(5000002,.box 77 k0)],[]⟩,[(.normal,⟨[(0,.c (.dp u5)),(1,.c (.int .i64)),(5,.c (.row 5000000)),(6,.c (.row 5000001)),(7,.c (.int .i64))],[(5000000,.row 2 (.int .i64)),(5000001,.row 2 (.int .i64))],[]⟩)],λρ k v nx=>tZ k v.1.1 v.1.2.1 v.1.2.2.2.2.1 v.2.1 v.2.2.1 v.2.2.2.1.1 v.2.2.2.1.2.1 v.2.2.2.1.2.2.1 nx⟩
def mW {ρ:Type}(k:Nat):Nat->T7->Int->Int->(List Int)->(List Int)->(((T1×T12)->Option ρ)×Unit)->Option ρ|0,_,_,_,_,_,_=>none|j+1,v67,v68,v69,v70,v71,nx=>bif(decide (v69<(v67.2.length:Int)))then(aq v67.2 v69).bind λx72=>bif(x72.1 !=v68)then bif(x72.2.1 !=v68)then mW k j v67 v68 (wr .i64 (v69+1)) v70 v71 nx else tZ k v67 v68 v69 v70 v71 x72.1 x72.2.1 x72.2.2 (λx73:((T7×Int×Unit×Unit×Int×Unit)×((List Int)×(List Int)×Unit))=>mW k j x73.1.1 x73.1.2.1 (wr .i64 (x73.1.2.2.2.2.1+1)) x73.2.1 x73.2.2.1 nx,())else tZ k v67 v68 v69 v70 v71 x72.1 x72.2.1 x72.2.2 (λx74:((T7×Int×Unit×Unit×Int×Unit)×((List Int)×(List Int)×Unit))=>mW k j x74.1.1 x74.1.2.1 (wr .i64 (x74.1.2.2.2.2.1+1)) x74.2.1 x74.2.2.1 nx,())else nx.1 (((),()),(v70,()))
def GC (k:Nat):Cut:=⟨⟨[(0,.c (.dp u5)),(1,.c (.int .i64)),(5,.c (.row 5000000)),(6,.c (.row 5000001)),(7,.c (.int .i64))],[(5000000,.row 2 (.int .i64)),(5000001,.row 2 (.int .i64))],[]⟩,[(.exit 0,⟨[(5,.c (.row 5000000))],[(5000000,.row 2 (.int .i64))],[]⟩)],λρ j v nx=>mW k j v.1.1 v.1.2.1 v.1.2.2.2.2.1 v.2.1 v.2.2.1 nx⟩
def f46 (k:Nat)(a1:T7)(a2:Int):Option (T1×T12):=
 mW k k a1 a2 0 ([]:List Int) ([]:List Int)
  (λx46:(T1×T12)=>some (((),()),(x46.2.1,())),
  ())
def IF :af:=⟨46,⟨[(0,.c (.dp u5)),(1,.c (.int .i64))],[],[]⟩,⟨[(0,.c (.row 4000000))],[(4000000,.row 2 (.int .i64))],[]⟩,λk v=>f46 k v.1.1 v.1.2.1⟩
def Jb (k:Nat):Full:=fl k 81 [IJ,MN,U8] (cuts:=[(10,(DU k)),(4,(GC k))]) (joins:=[(8,GB)]) (touch:=[(8,[(18,[9])])])
theorem OD (k:Nat):aF (Jb k) (DU k) (au Tryz.f46 10):=λρ v nx=>⟨by kernel_rfl,λj=>by kernel_rfl⟩
theorem SY (k:Nat):dh (Jb k) GB (cY Tryz.f46 8):=λρ v nx=>by kernel_rfl
theorem SZ (k:Nat):aF (Jb k) (GC k) (au Tryz.f46 4):=λρ v nx=>⟨by kernel_rfl,λj=>by kernel_rfl⟩
theorem O7 :SN IF:=so Tryz.func46 Jb (λ_ j=>⟨Pb.at j,Wv.at j,abz.at j,trivial⟩) (λ_ _=>by kernel_rfl) (hob:=λk=>Eq.mpr (by kernel_rfl) (And.intro (OD k) (And.intro (SY k) (And.intro (SZ k) (trivial)))))
def f137 (k:Nat)(a1:T7)(a2 a3:Int):Option (T0×Unit):=
 (aq a1.1 a3).bind λx7=>
 (f126 k x7.1.1 x7.1.2.1 x7.1.2.2 x7.2.1 x7.2.2.1 x7.2.2.2).bind λx8=>
 (aq a1.1 a2).bind λx9=>
 (f126 k x9.1.1 x9.1.2.1 x9.1.2.2 x9.2.1 x9.2.2.1 x9.2.2.2).bind λx10=>
 (f128 k x8.1.1.1 x8.1.1.2.1 x8.1.1.2.2.1 x8.1.1.2.2.2.1 x8.1.1.2.2.2.2.1 x8.1.1.2.2.2.2.2.1 x10.1.1.1 x10.1.1.2.1 x10.1.1.2.2.1 x10.1.1.2.2.2.1 x10.1.1.2.2.2.2.1 x10.1.1.2.2.2.2.2.1).bind λx11=>
 (f127 k x11.1.1.1 x11.1.1.2.1 x11.1.1.2.2.1 x11.1.1.2.2.2.1 x11.1.1.2.2.2.2.1 x11.1.1.2.2.2.2.2.1).bind λx12=>
 some ((x12.1.1,()),())
def Ih :af:=ee 137 [(0,.c (.dp u5)),(1,.c (.int .i64)),(2,.c (.int .i64))] [(0,.c (.int .i64))] λk v=>f137 k v.1.1 v.1.2.1 v.1.2.2.1
def Xd (k:Nat):Full:=fl k 25 [sB,qb,sC]
theorem RS :SN Ih:=so Tryz.func137 Xd (λ_ j=>⟨vA.at j,tf.at j,vB.at j,trivial⟩) (λ_ _=>by kernel_rfl)
def ol {ρ:Type}(k:Nat):Nat->T7->Int->Int->(List Int)->(List Int)->(((T1×T12)->Option ρ)×Unit)->Option ρ|0,_,_,_,_,_,_=>none|j+1,v14,v15,v16,v17,v18,nx=>bif(decide (v16<(v18.length:Int)))then bif decide (0≤v16)&&decide (v16<(v18.length:Int))then(v18[v16.toNat]?).bind λx19=>(aq v14.2 x19).bind λx20=>(f82 k x20.1 x20.2.1 x20.2.2 v15).bind λx21=>(f137 k v14 v15 x21.1.1).bind λx22=>bif decide ((v17.length+[x22.1.1].length)*8≤roomy)then ol k j v14 v15 (wr .i64 (v16+1)) (v17++[x22.1.1]) v18 nx else none else none else nx.1 (((),()),(v17,()))
def CZ (k:Nat):Cut:=⟨⟨[(0,.c (.dp u5)),(1,.c (.int .i64)),(5,.c (.row 5000000)),(6,.c (.row 5000001)),(7,.c (.int .i64))],[(5000000,.row 2 (.int .i64)),(5000001,.row 2 (.int .i64))],[]⟩,[(.exit 0,⟨[(5,.c (.row 5000000))],[(5000000,.row 2 (.int .i64))],[]⟩)],λρ j v nx=>ol k j v.1.1 v.1.2.1 v.1.2.2.2.2.1 v.2.1 v.2.2.1 nx⟩
def f135 (k:Nat)(a1:T7)(a2:Int):Option (T1×T12):=
 (f46 k a1 a2).bind λx12=>
 ol k k a1 a2 0 ([]:List Int) x12.2.1
  (λx13:(T1×T12)=>some (((),()),(x13.2.1,())),
  ())
def PO :af:=⟨135,⟨[(0,.c (.dp u5)),(1,.c (.int .i64))],[],[]⟩,⟨[(0,.c (.row 4000000))],[(4000000,.row 2 (.int .i64))],[]⟩,λk v=>f135 k v.1.1 v.1.2.1⟩
def Q6 (k:Nat):Full:=fl k 37 [IF,IJ,Ih] (cuts:=[(4,(CZ k))]) (touch:=[(6,[(17,[5000000])])])
theorem NI (k:Nat):aF (Q6 k) (CZ k) (au Tryz.f135 4):=λρ v nx=>⟨by kernel_rfl,λj=>by kernel_rfl⟩
theorem YA :SN PO:=so Tryz.func135 Q6 (λ_ j=>⟨O7.at j,Pb.at j,RS.at j,trivial⟩) (λ_ _=>by kernel_rfl) (hob:=λk=>Eq.mpr (by kernel_rfl) (And.intro (NI k) (trivial)))
def mc {ρ:Type}(k:Nat):Nat->(List Int)->Int->((T1->Option ρ)×((T2×Unit)->Option ρ)×Unit)->Option ρ|0,_,_,_=>none|j+1,v11,v12,nx=>bif(decide (v12<(v11.length:Int)))then(aq v11 v12).bind λx13=>(f45 k x13 0 15).bind λx14=>bif(!x14.1.1)then nx.2.1 ((false,()),())else bif(decide (v12>0))then(aq v11 v12).bind λx15=>(aq v11 (wr .i64 (v12-1))).bind λx16=>bif(decide (x15≤x16))then nx.2.1 ((false,()),())else mc k j v11 (wr .i64 (v12+1)) nx else mc k j v11 (wr .i64 (v12+1)) nx else nx.1 ((),())
def Dj (k:Nat):Cut:=⟨⟨[(0,.c (.sl (.int .i64))),(3,.c (.int .i64))],[],[]⟩,[(.exit 0,⟨[],[],[]⟩),(.ret,⟨[(2,.c .bool)],[],[]⟩)],λρ j v nx=>mc k j v.1.1 v.1.2.1 nx⟩
def f190 (k:Nat)(a1:(List Int)):Option (T2×Unit):=
 mc k k a1 0
  (λx9:T1=>some ((true,()),()),
  λx10:(T2×Unit)=>some ((x10.1.1,()),()),
  ())
def Qf :af:=ee 190 [(0,.c (.sl (.int .i64)))] [(0,.c .bool)] λk v=>f190 k v.1.1
def Rl (k:Nat):Full:=fl k 32 [wQ] (cuts:=[(2,(Dj k))])
theorem NZ (k:Nat):aF (Rl k) (Dj k) (au Tryz.f190 2):=λρ v nx=>⟨by kernel_rfl,λj=>by kernel_rfl⟩
theorem Y3 :SN Qf:=so Tryz.func190 Rl (λ_ j=>⟨zK.at j,trivial⟩) (λ_ _=>by kernel_rfl) (hob:=λk=>Eq.mpr (by kernel_rfl) (And.intro (NZ k) (trivial)))
def om {ρ:Type}(k:Nat):Nat->(List Int)->Int->(List Int)->(((((List Int)×Unit×Unit)×T12)->Option ρ)×Unit)->Option ρ|0,_,_,_,_=>none|j+1,v20,v21,v22,nx=>bif(decide (v21<(v20.length:Int)))then(aq v20 v21).bind λx23=>(aq v20 (wr .i64 (v21-1))).bind λx24=>bif decide ((v22.length+[(wr .i64 (x23-x24))].length)*8≤roomy)then om k j v20 (wr .i64 (v21+1)) (v22++[(wr .i64 (x23-x24))]) nx else none else nx.1 ((v20,(),()),(v22,()))
def C0 (k:Nat):Cut:=⟨⟨[(0,.c (.sl (.int .i64))),(4,.c (.row 5000000)),(5,.c (.int .i64))],[(5000000,.row 2 (.int .i64))],[]⟩,[(.exit 0,⟨[(0,.c (.sl (.int .i64))),(4,.c (.row 5000000))],[(5000000,.row 2 (.int .i64))],[]⟩)],λρ j v nx=>om k j v.1.1 v.1.2.2.1 v.2.1 nx⟩
def f136 (k:Nat)(a1:(List Int)):Option (T17×T12):=bif((a1.length:Int)==0)then some (((),false,()),(([]:List Int),()))else(f190 k a1).bind λx14=>bif(!x14.1.1)then some (((),false,()),(([]:List Int),()))else om k k a1 1 ([]:List Int) (λx16:(((List Int)×Unit×Unit)×T12)=>(aq x16.1.1 0).bind λx17=>(aq x16.1.1 (wr .i64 ((x16.1.1.length:Int)-1))).bind λx18=>bif decide ((x16.2.1.length+[(wr .i64 ((wr .i64 (x17+16))-x18))].length)*8≤roomy)then let x19:(List Int):=(x16.2.1++[(wr .i64 ((wr .i64 (x17+16))-x18))]);some (((),true,()),(x19,()))else none,())
def PP :af:=⟨136,⟨[(0,.c (.sl (.int .i64)))],[],[]⟩,⟨[(0,.c (.row 4000000)),(1,.c .bool)],[(4000000,.row 2 (.int .i64))],[]⟩,λk v=>f136 k v.1.1⟩
def Q7 (k:Nat):Full:=fl k 48 [Qf] (cuts:=[(5,(C0 k))]) (touch:=[(7,[(12,[5000000])]),(8,[(13,[5000000])])])
theorem NJ (k:Nat):aF (Q7 k) (C0 k) (au Tryz.f136 5):=λρ v nx=>⟨by kernel_rfl,λj=>by kernel_rfl⟩
theorem YB :SN PP:=so Tryz.func136 Q7 (λ_ j=>⟨Y3.at j,trivial⟩) (λ_ _=>by kernel_rfl) (hob:=λk=>Eq.mpr (by kernel_rfl) (And.intro (NJ k) (trivial)))
def f138 (k:Nat)(a1:(List Int)):Option (T1×T12):=bif decide ((([]:List Int).length+a1.length)*8≤roomy)then some (((),()),((([]:List Int)++a1),()))else none
def Ii :af:=⟨138,⟨[(0,.c (.sl (.int .i64)))],[],[]⟩,⟨[(0,.c (.row 4000000))],[(4000000,.row 2 (.int .i64))],[]⟩,λk v=>f138 k v.1.1⟩
def Xe (k:Nat):Full:=fl k 6 []
theorem RT :SN Ii:=so Tryz.func138 Xe (λ_ _=>trivial) (λ_ _=>by kernel_rfl)
def xW {ρ:Type}(k:Nat):Nat->T7->(List Int)->Int->Int->Int->(List Int)->((((T7×Int×Unit×Int×Unit)×T12)->Option ρ)×Unit)->Option ρ|0,_,_,_,_,_,_,_=>none|j+1,v43,v44,v45,v46,v47,v48,nx=>bif(decide (v47<(v44.length:Int)))then(aq v44 v47).bind λx49=>bif(x49==v45)then bif decide ((v44.length:Int)=0)then none else let x50:Int:=((wr .i64 (v47+1)).tmod (v44.length:Int));(aq v44 x50).bind λx51=>xW k j v43 v44 v45 x51 (wr .i64 (v47+1)) v48 nx else xW k j v43 v44 v45 v46 (wr .i64 (v47+1)) v48 nx else nx.1 ((v43,v45,(),v46,()),(v48,()))
def G4 (k:Nat):Cut:=⟨⟨[(0,.c (.dp u5)),(1,.c (.sl (.int .i64))),(2,.c (.int .i64)),(7,.c (.row 5000000)),(10,.c (.int .i64)),(11,.c (.int .i64))],[(5000000,.row 2 (.int .i64))],[]⟩,[(.exit 0,⟨[(0,.c (.dp u5)),(2,.c (.int .i64)),(7,.c (.row 5000000)),(10,.c (.int .i64))],[(5000000,.row 2 (.int .i64))],[]⟩)],λρ j v nx=>xW k j v.1.1 v.1.2.1 v.1.2.2.1 v.1.2.2.2.2.1 v.1.2.2.2.2.2.1 v.2.1 nx⟩
def zr {ρ:Type}(k:Nat):Nat->(List Int)->Int->(((T12×Unit)->Option ρ)×Unit)->Option ρ|0,_,_,_=>none|j+1,v52,v53,nx=>(aq v52 0).bind λx55=>bif(x55 !=v53)then bif decide (0≤1)&&decide (1≤(v52.length:Int))&&decide ((v52.length:Int)≤(v52.length:Int))then(f138 k (sub v52 1 (v52.length:Int))).bind λx56=>(aq v52 0).bind λx57=>bif decide ((x56.2.1.length+[x57].length)*8≤roomy)then zr k j (x56.2.1++[x57]) v53 nx else none else none else nx.1 ((v52,()),())
def D4 (k:Nat):Cut:=⟨⟨[(7,.c (.sl (.int .i64))),(12,.c (.int .i64))],[],[]⟩,[(.exit 2,⟨[(7,.c (.sl (.int .i64)))],[],[]⟩)],λρ j v nx=>zr k j v.1.1 v.1.2.1 nx⟩
def zt {ρ:Type}(k:Nat):Nat->(List Int)->Int->(List Int)->(((T1×T12)->Option ρ)×Unit)->Option ρ|0,_,_,_,_=>none|j+1,v58,v59,v60,nx=>bif(decide (v59<(v58.length:Int)))then(aq v58 v59).bind λx61=>(aq v58 (wr .i64 (v59-1))).bind λx62=>(f131 k (wr .i64 (x61-x62))).bind λx63=>bif decide ((v60.length+[x63.1.1].length)*8≤roomy)then zt k j v58 (wr .i64 (v59+1)) (v60++[x63.1.1]) nx else none else nx.1 (((),()),(v60,()))
def D5 (k:Nat):Cut:=⟨⟨[(7,.c (.sl (.int .i64))),(13,.c (.row 5000000)),(14,.c (.int .i64))],[(5000000,.row 2 (.int .i64))],[]⟩,[(.exit 4,⟨[(13,.c (.row 5000000))],[(5000000,.row 2 (.int .i64))],[]⟩)],λρ j v nx=>zt k j v.1.1 v.1.2.2.1 v.2.1 nx⟩
def f85 (k:Nat)(a1:T7)(a2:(List Int))(a3:Int):Option (T1×T12):=(f135 k a1 a3).bind λx32=>(f47 k a2 a3).bind λx35=>bif(!x35.1.1)then(f136 k x32.2.1).bind λx36=>some (((),()),(x36.2.1,()))else xW k k a1 a2 a3 0 0 x32.2.1 (λx38:((T7×Int×Unit×Int×Unit)×T12)=>(f137 k x38.1.1 x38.1.2.1 x38.1.2.2.2.1).bind λx39=>zr k k x38.2.1 x39.1.1 (λx41:(T12×Unit)=>zt k k x41.1.1 1 ([]:List Int) (λx42:(T1×T12)=>some (((),()),(x42.2.1,())),()),()),())
def MO :af:=⟨85,⟨[(0,.c (.dp u5)),(1,.c (.sl (.int .i64))),(2,.c (.int .i64))],[],[]⟩,⟨[(0,.c (.row 4000000))],[(4000000,.row 2 (.int .i64))],[]⟩,λk v=>f85 k v.1.1 v.1.2.1 v.1.2.2.1⟩
def Jd (k:Nat):Full:=fl k 87 [PO,wR,PP,Ih,Ii,xP] (cuts:=[(7,(G4 k)),(12,(D4 k)),(16,(D5 k))]) (touch:=[(13,[(7,[2005900])]),(18,[(13,[5000000])])])
theorem Tq (k:Nat):aF (Jd k) (G4 k) (au Tryz.f85 7):=λρ v nx=>⟨by kernel_rfl,λj=>by kernel_rfl⟩
theorem OK (k:Nat):aF (Jd k) (D4 k) (au Tryz.f85 12):=λρ v nx=>⟨by kernel_rfl,λj=>by kernel_rfl⟩
theorem OL (k:Nat):aF (Jd k) (D5 k) (au Tryz.f85 16):=λρ v nx=>⟨by kernel_rfl,λj=>by kernel_rfl⟩
theorem Ww :SN MO:=so Tryz.func85 Jd (λ_ j=>⟨YA.at j,zL.at j,YB.at j,RS.at j,RT.at j,Ci.at j,trivial⟩) (λ_ _=>by kernel_rfl) (hob:=λk=>Eq.mpr (by kernel_rfl) (And.intro (Tq k) (And.intro (OK k) (And.intro (OL k) (trivial)))))
def ot {ρ:Type}(k:Nat):Nat->(List Int)->Int->Int->(((((List Int)×Int×Unit)×Unit)->Option ρ)×((T2×Unit)->Option ρ)×Unit)->Option ρ|0,_,_,_,_=>none|j+1,v15,v16,v17,nx=>bif(decide (v17<(v15.length:Int)))then(aq v15 v17).bind λx18=>(f45 k x18 1 16).bind λx19=>bif(!x19.1.1)then nx.2.1 ((false,()),())else(aq v15 v17).bind λx20=>ot k j v15 (wr .i64 (v16+x20)) (wr .i64 (v17+1)) nx else nx.1 ((v15,v16,()),())
def C4 (k:Nat):Cut:=⟨⟨[(0,.c (.sl (.int .i64))),(3,.c (.int .i64)),(4,.c (.int .i64))],[],[]⟩,[(.exit 0,⟨[(0,.c (.sl (.int .i64))),(3,.c (.int .i64))],[],[]⟩),(.ret,⟨[(2,.c .bool)],[],[]⟩)],λρ j v nx=>ot k j v.1.1 v.1.2.1 v.1.2.2.1 nx⟩
def f139 (k:Nat)(a1:(List Int)):Option (T2×Unit):=ot k k a1 0 0 (λx13:(((List Int)×Int×Unit)×Unit)=>bif(decide ((x13.1.1.length:Int)≤16))then some (((x13.1.2.1==16),()),())else some ((false,()),()),λx14:(T2×Unit)=>some ((x14.1.1,()),()),())
def Ij :af:=ee 139 [(0,.c (.sl (.int .i64)))] [(0,.c .bool)] λk v=>f139 k v.1.1
def Q8 (k:Nat):Full:=fl k 30 [wQ] (cuts:=[(3,(C4 k))])
theorem NK (k:Nat):aF (Q8 k) (C4 k) (au Tryz.f139 3):=λρ v nx=>⟨by kernel_rfl,λj=>by kernel_rfl⟩
theorem RU :SN Ij:=so Tryz.func139 Q8 (λ_ j=>⟨zK.at j,trivial⟩) (λ_ _=>by kernel_rfl) (hob:=λk=>Eq.mpr (by kernel_rfl) (And.intro (NK k) (trivial)))
def oj {ρ:Type}(k:Nat):Nat->(List Int)->Int->Int->(((T0×Unit)->Option ρ)×Unit)->Option ρ|0,_,_,_,_=>none|j+1,v12,v13,v14,nx=>bif(decide (v14<(v12.length:Int)))then(aq v12 v14).bind λx15=>(aq v12 (wr .i64 (v14+1))).bind λx16=>oj k j v12 (wr .i64 (v13+(wr .i64 (x15-x16)))) (wr .i64 (v14+2)) nx else nx.1 ((v13,()),())
def CY (k:Nat):Cut:=⟨⟨[(0,.c (.sl (.int .i64))),(4,.c (.int .i64)),(5,.c (.int .i64))],[],[]⟩,[(.exit 0,⟨[(4,.c (.int .i64))],[],[]⟩)],λρ j v nx=>oj k j v.1.1 v.1.2.1 v.1.2.2.1 nx⟩
def f134 (k:Nat)(a1:(List Int)):Option ((Int×Bool×Unit)×Unit):=(f139 k a1).bind λx10=>bif(!x10.1.1)then some ((0,false,()),())else bif(((a1.length:Int).tmod 2) !=0)then some ((0,false,()),())else oj k k a1 0 0 (λx11:(T0×Unit)=>some ((x11.1.1,true,()),()),())
def PN :af:=ee 134 [(0,.c (.sl (.int .i64)))] [(0,.c (.int .i64)),(1,.c .bool)] λk v=>f134 k v.1.1
def Q5 (k:Nat):Full:=fl k 34 [Ij] (cuts:=[(5,(CY k))])
theorem NH (k:Nat):aF (Q5 k) (CY k) (au Tryz.f134 5):=λρ v nx=>⟨by kernel_rfl,λj=>by kernel_rfl⟩
theorem Yz :SN PN:=so Tryz.func134 Q5 (λ_ j=>⟨RU.at j,trivial⟩) (λ_ _=>by kernel_rfl) (hob:=λk=>Eq.mpr (by kernel_rfl) (And.intro (NH k) (trivial)))
def f84 (k:Nat)(a1:(List Int)):Option (T2×Unit):=(f134 k a1).bind λx2=>bif x2.1.2.1 then some (((x2.1.1==0),()),())else some ((false,()),())
def U9 :af:=ee 84 [(0,.c (.sl (.int .i64)))] [(0,.c .bool)] λk v=>f84 k v.1.1
def aao (k:Nat):Full:=fl k 15 [PN]
theorem abA :SN U9:=so Tryz.func84 aao (λ_ j=>⟨Yz.at j,trivial⟩) (λ_ _=>by kernel_rfl)
def f48 (k:Nat)(a1:T7)(a2:(List Int))(a3:Int):Option (T2×Unit):=(f47 k a2 a3).bind λx4=>bif x4.1.1 then some ((true,()),())else(f85 k a1 a2 a3).bind λx5=>(f84 k x5.2.1).bind λx6=>some ((x6.1.1,()),())
def UG :af:=ee 48 [(0,.c (.dp u5)),(1,.c (.sl (.int .i64))),(2,.c (.int .i64))] [(0,.c .bool)] λk v=>f48 k v.1.1 v.1.2.1 v.1.2.2.1
def Z6 (k:Nat):Full:=fl k 17 [wR,MO,U9]
theorem aa7 :SN UG:=so Tryz.func48 Z6 (λ_ j=>⟨zL.at j,Ww.at j,abA.at j,trivial⟩) (λ_ _=>by kernel_rfl)
def rO {ρ:Type}(k:Nat):Nat->T7->Int->(List Int)->(List Int)->(((T1×T12)->Option ρ)×Unit)->Option ρ|0,_,_,_,_,_=>none|j+1,v11,v12,v13,v14,nx=>bif(decide (v12<(v14.length:Int)))then bif decide (0≤v12)&&decide (v12<(v14.length:Int))then(v14[v12.toNat]?).bind λx15=>(aq v11.2 x15).bind λx16=>bif decide ((v13.length+[x16.2.2].length)*8≤roomy)then rO k j v11 (wr .i64 (v12+1)) (v13++[x16.2.2]) v14 nx else none else none else nx.1 (((),()),(v13,()))
def G5 (k:Nat):Cut:=⟨⟨[(0,.c (.dp u5)),(5,.c (.row 5000000)),(6,.c (.row 5000001)),(7,.c (.int .i64))],[(5000000,.row 2 (.int .i64)),(5000001,.row 2 (.int .i64))],[]⟩,[(.exit 0,⟨[(5,.c (.row 5000000))],[(5000000,.row 2 (.int .i64))],[]⟩)],λρ j v nx=>rO k j v.1.1 v.1.2.2.2.1 v.2.1 v.2.2.1 nx⟩
def f86 (k:Nat)(a1:T7)(a2:Int):Option (T1×T12):=
 (f46 k a1 a2).bind λx9=>
 rO k k a1 0 ([]:List Int) x9.2.1
  (λx10:(T1×T12)=>some (((),()),(x10.2.1,())),
  ())
def MP :af:=⟨86,⟨[(0,.c (.dp u5)),(1,.c (.int .i64))],[],[]⟩,⟨[(0,.c (.row 4000000))],[(4000000,.row 2 (.int .i64))],[]⟩,λk v=>f86 k v.1.1 v.1.2.1⟩
def VP (k:Nat):Full:=fl k 33 [IF] (cuts:=[(4,(G5 k))]) (touch:=[(6,[(13,[5000000])])])
theorem Ts (k:Nat):aF (VP k) (G5 k) (au Tryz.f86 4):=λρ v nx=>⟨by kernel_rfl,λj=>by kernel_rfl⟩
theorem Wx :SN MP:=so Tryz.func86 VP (λ_ j=>⟨O7.at j,trivial⟩) (λ_ _=>by kernel_rfl) (hob:=λk=>Eq.mpr (by kernel_rfl) (And.intro (Ts k) (trivial)))
def pz {ρ:Type}(k:Nat):Nat->(List Int)->Int->Int->(((T0×Unit)->Option ρ)×Unit)->Option ρ|0,_,_,_,_=>none|j+1,v7,v8,v9,nx=>bif(decide (v9<(v7.length:Int)))then(aq v7 v9).bind λx10=>bif(x10==2)then pz k j v7 (wr .i64 (v8+1)) (wr .i64 (v9+1)) nx else pz k j v7 (wr .i64 (v8-1)) (wr .i64 (v9+1)) nx else nx.1 ((v8,()),())
def G6 (k:Nat):Cut:=⟨⟨[(0,.c (.sl (.int .i64))),(3,.c (.int .i64)),(4,.c (.int .i64))],[],[]⟩,[(.exit 0,⟨[(3,.c (.int .i64))],[],[]⟩)],λρ j v nx=>pz k j v.1.1 v.1.2.1 v.1.2.2.1 nx⟩
def f87 (k:Nat)(a1:(List Int)):Option (T0×Unit):=
 pz k k a1 0 0
  (λx6:(T0×Unit)=>some ((x6.1.1,()),()),
  ())
def MQ :af:=ee 87 [(0,.c (.sl (.int .i64)))] [(0,.c (.int .i64))] λk v=>f87 k v.1.1
def VQ (k:Nat):Full:=fl k 21 [] (cuts:=[(3,(G6 k))])
theorem Tt (k:Nat):aF (VQ k) (G6 k) (au Tryz.f87 3):=λρ v nx=>⟨by kernel_rfl,λj=>by kernel_rfl⟩
theorem Wy :SN MQ:=so Tryz.func87 VQ (λ_ _=>trivial) (λ_ _=>by kernel_rfl) (hob:=λk=>Eq.mpr (by kernel_rfl) (And.intro (Tt k) (trivial)))
def f49 (k:Nat)(a1:T7)(a2:(List Int))(a3:Int):Option (T2×Unit):=(f47 k a2 a3).bind λx7=>bif x7.1.1 then some ((true,()),())else(f86 k a1 a3).bind λx8=>(f87 k x8.2.1).bind λx9=>(f47 k x8.2.1 4).bind λx10=>bif(!x10.1.1)then bif(x9.1.1==2)then some ((true,()),())else some (((x9.1.1==(-2)),()),())else some ((false,()),())
def UH :af:=ee 49 [(0,.c (.dp u5)),(1,.c (.sl (.int .i64))),(2,.c (.int .i64))] [(0,.c .bool)] λk v=>f49 k v.1.1 v.1.2.1 v.1.2.2.1
def Z7 (k:Nat):Full:=fl k 28 [wR,MP,MQ]
theorem aa8 :SN UH:=so Tryz.func49 Z7 (λ_ j=>⟨zL.at j,Wx.at j,Wy.at j,trivial⟩) (λ_ _=>by kernel_rfl)
def lV {ρ:Type}(k:Nat):Nat->(List Int)->Int->Int->Int->(((((List Int)×Int×Int×Int×Unit)×Unit)->Option ρ)×Unit)->Option ρ|0,_,_,_,_,_=>none|j+1,v29,v30,v31,v32,nx=>bif decide (v31=0)then none else(aq v29 ((wr .i64 (v30+v32)).tmod v31)).bind λx33=>(aq v29 v30).bind λx34=>bif(x33==x34)then lV k j v29 v30 v31 (wr .i64 (v32+1)) nx else nx.1 ((v29,v30,v31,v32,()),())
def C5 (k:Nat):Cut:=⟨⟨[(0,.c (.sl (.int .i64))),(1,.c (.int .i64)),(5,.c (.int .i64)),(6,.c (.int .i64))],[],[]⟩,[(.exit 0,⟨[(0,.c (.sl (.int .i64))),(1,.c (.int .i64)),(5,.c (.int .i64)),(6,.c (.int .i64))],[],[]⟩)],λρ j v nx=>lV k j v.1.1 v.1.2.1 v.1.2.2.1 v.1.2.2.2.1 nx⟩
def f140 (k:Nat)(a1:(List Int))(a2:Int):Option (T0×Unit):=let x21:Int:=(wr .i64 ((wr .i64 (a2+(a1.length:Int)))-1));bif decide ((a1.length:Int)=0)then none else(aq a1 (x21.tmod (a1.length:Int))).bind λx22=>(aq a1 a2).bind λx23=>bif(decide (x22≤x23))then some ((0,()),())else lV k k a1 a2 (a1.length:Int) 1 (λx25:(((List Int)×Int×Int×Int×Unit)×Unit)=>bif decide (x25.1.2.2.1=0)then none else let x26:Int:=((wr .i64 (x25.1.2.1+x25.1.2.2.2.1)).tmod x25.1.2.2.1);(aq x25.1.1 x26).bind λx27=>(aq x25.1.1 x25.1.2.1).bind λx28=>bif(decide (x27<x28))then some ((0,()),())else some ((x25.1.2.2.2.1,()),()),())
def PQ :af:=ee 140 [(0,.c (.sl (.int .i64))),(1,.c (.int .i64))] [(0,.c (.int .i64))] λk v=>f140 k v.1.1 v.1.2.1
def Q9 (k:Nat):Full:=fl k 52 [] (cuts:=[(5,(C5 k))])
theorem NL (k:Nat):aF (Q9 k) (C5 k) (au Tryz.f140 5):=λρ v nx=>⟨by kernel_rfl,λj=>by kernel_rfl⟩
theorem YC :SN PQ:=so Tryz.func140 Q9 (λ_ _=>trivial) (λ_ _=>by kernel_rfl) (hob:=λk=>Eq.mpr (by kernel_rfl) (And.intro (NL k) (trivial)))
def ld {ρ:Type}(k:Nat):Nat->(List Int)->Int->(List T5)->(((T1×T11)->Option ρ)×Unit)->Option ρ|0,_,_,_,_=>none|j+1,v12,v13,v14,nx=>bif(decide (v13<(v12.length:Int)))then(f140 k v12 v13).bind λx15=>bif(decide (x15.1.1>0))then(aq v12 v13).bind λx16=>bif decide ((v14.length+[(v13,(x15.1.1,x16))].length)*24≤roomy)then ld k j v12 (wr .i64 (v13+1)) (v14++[(v13,(x15.1.1,x16))]) nx else none else ld k j v12 (wr .i64 (v13+1)) v14 nx else nx.1 (((),()),(v14,()))
def G7 (k:Nat):Cut:=⟨⟨[(0,.c (.sl (.int .i64))),(3,.c (.row 5000000)),(4,.c (.int .i64))],[(5000000,.row 125 u1)],[]⟩,[(.exit 0,⟨[(3,.c (.row 5000000))],[(5000000,.row 125 u1)],[]⟩)],λρ j v nx=>ld k j v.1.1 v.1.2.2.1 v.2.1 nx⟩
def f88 (k:Nat)(a1:(List Int)):Option (T1×T11):=(f139 k a1).bind λx10=>bif(!x10.1.1)then some (((),()),(([]:List T5),()))else ld k k a1 0 ([]:List T5) (λx11:(T1×T11)=>some (((),()),(x11.2.1,())),())
def Va :af:=⟨88,⟨[(0,.c (.sl (.int .i64)))],[],[]⟩,⟨[(0,.c (.row 4000000))],[(4000000,.row 125 u1)],[]⟩,λk v=>f88 k v.1.1⟩
def VR (k:Nat):Full:=fl k 32 [Ij,PQ] (cuts:=[(5,(G7 k))])
theorem Tu (k:Nat):aF (VR k) (G7 k) (au Tryz.f88 5):=λρ v nx=>⟨by kernel_rfl,λj=>by kernel_rfl⟩
theorem abB :SN Va:=so Tryz.func88 VR (λ_ j=>⟨RU.at j,YC.at j,trivial⟩) (λ_ _=>by kernel_rfl) (hob:=λk=>Eq.mpr (by kernel_rfl) (And.intro (Tu k) (trivial)))
def f89 (k:Nat)(a1:(List Int))(a2:Int):Option (T1×T12):=bif decide (0≤a2)&&decide (a2≤(a1.length:Int))&&decide ((a1.length:Int)≤(a1.length:Int))then(f138 k (sub a1 a2 (a1.length:Int))).bind λx2=>bif decide (0≤0)&&decide (0≤a2)&&decide (a2≤(a1.length:Int))then bif decide ((x2.2.1.length+(sub a1 0 a2).length)*8≤roomy)then some (((),()),((x2.2.1++(sub a1 0 a2)),()))else none else none else none
def Vb :af:=⟨89,⟨[(0,.c (.sl (.int .i64))),(1,.c (.int .i64))],[],[]⟩,⟨[(0,.c (.row 4000000))],[(4000000,.row 2 (.int .i64))],[]⟩,λk v=>f89 k v.1.1 v.1.2.1⟩
def aap (k:Nat):Full:=fl k 15 [Ii]
theorem abC :SN Vb:=so Tryz.func89 aap (λ_ j=>⟨RT.at j,trivial⟩) (λ_ _=>by kernel_rfl)
def iX {ρ:Type}(k:Nat):Nat->Int->(List Int)->(List T5)->((T1->Option ρ)×((T2×Unit)->Option ρ)×Unit)->Option ρ|0,_,_,_,_=>none|j+1,v29,v30,v31,nx=>bif(decide (v29<(v31.length:Int)))then bif decide (0≤v29)&&decide (v29<(v31.length:Int))then(v31[v29.toNat]?).bind λx32=>(f89 k v30 x32.1).bind λx33=>bif decide (0≤v29)&&decide (v29<(v31.length:Int))then(v31[v29.toNat]?).bind λx34=>bif decide (0≤(wr .i64 (x34.2.1+1)))&&decide ((wr .i64 (x34.2.1+1))≤(x33.2.1.length:Int))then(f87 k (x33.2.1.take (wr .i64 (x34.2.1+1)).toNat)).bind λx35=>bif decide (0≤v29)&&decide (v29<(v31.length:Int))then(v31[v29.toNat]?).bind λx36=>bif((x36.2.1.tmod 2)==1)then bif(x35.1.1 !=0)then nx.2.1 ((false,()),())else bif decide (0≤v29)&&decide (v29<(v31.length:Int))then(v31[v29.toNat]?).bind λx37=>bif((x37.2.1.tmod 2)==0)then bif(x35.1.1 !=1)then bif(x35.1.1 !=(-1))then nx.2.1 ((false,()),())else iX k j (wr .i64 (v29+1)) v30 v31 nx else iX k j (wr .i64 (v29+1)) v30 v31 nx else iX k j (wr .i64 (v29+1)) v30 v31 nx else none else bif decide (0≤v29)&&decide (v29<(v31.length:Int))then(v31[v29.toNat]?).bind λx38=>bif((x38.2.1.tmod 2)==0)then bif(x35.1.1 !=1)then bif(x35.1.1 !=(-1))then nx.2.1 ((false,()),())else iX k j (wr .i64 (v29+1)) v30 v31 nx else iX k j (wr .i64 (v29+1)) v30 v31 nx else iX k j (wr .i64 (v29+1)) v30 v31 nx else none else none else none else none else none else nx.1 ((),())
def GF (k:Nat):Cut:=⟨⟨[(7,.c (.row 5000000)),(8,.c (.row 5000001)),(9,.c (.int .i64))],[(5000000,.row 2 (.int .i64)),(5000001,.row 125 u1)],[]⟩,[(.exit 0,⟨[],[],[]⟩),(.ret,⟨[(6,.c .bool)],[],[]⟩)],λρ j v nx=>iX k j v.1.2.2.1 v.2.1 v.2.2.1 nx⟩
def f50 (k:Nat)(a1:T7)(a2:(List Int))(a3:Int):Option (T2×Unit):=(f47 k a2 a3).bind λx21=>bif x21.1.1 then some ((true,()),())else(f86 k a1 a3).bind λx22=>(f47 k x22.2.1 4).bind λx24=>bif x24.1.1 then some ((false,()),())else(f85 k a1 a2 a3).bind λx25=>(f88 k x25.2.1).bind λx26=>iX k k 0 x22.2.1 x26.2.1 (λx27:T1=>some ((true,()),()),λx28:(T2×Unit)=>some ((x28.1.1,()),()),())
def UI :af:=ee 50 [(0,.c (.dp u5)),(1,.c (.sl (.int .i64))),(2,.c (.int .i64))] [(0,.c .bool)] λk v=>f50 k v.1.1 v.1.2.1 v.1.2.2.1
def VC (k:Nat):Full:=fl k 75 [wR,MP,MO,Va,Vb,MQ] (cuts:=[(8,(GF k))]) (trunc:=[45])
theorem S5 (k:Nat):aF (VC k) (GF k) (au Tryz.f50 8):=λρ v nx=>⟨by kernel_rfl,λj=>by kernel_rfl⟩
theorem aa9 :SN UI:=so Tryz.func50 VC (λ_ j=>⟨zL.at j,Wx.at j,Ww.at j,abB.at j,abC.at j,Wy.at j,trivial⟩) (λ_ _=>by kernel_rfl) (hob:=λk=>Eq.mpr (by kernel_rfl) (And.intro (S5 k) (trivial)))
def f33 (k:Nat)(a1:T7)(a2:(List Int))(a3:Int):Option (((Int×Int×Bool×Bool×Bool×Bool×Unit)×Unit)×Unit):=
 (f46 k a1 a3).bind λx6=>
 (f47 k a2 a3).bind λx7=>
 (f48 k a1 a2 a3).bind λx8=>
 (f49 k a1 a2 a3).bind λx9=>
 (f50 k a1 a2 a3).bind λx10=>
 some (((a3,(x6.2.1.length:Int),(!x7.1.1),x8.1.1,x9.1.1,x10.1.1,()),()),())
def MI :af:=ee 33 [(0,.c (.dp u5)),(1,.c (.sl (.int .i64))),(2,.c (.int .i64))] [(0,.agg k5)] λk v=>f33 k v.1.1 v.1.2.1 v.1.2.2.1
def ZX (k:Nat):Full:=fl k 34 [IF,wR,UG,UH,UI]
theorem Wp :SN MI:=so Tryz.func33 ZX (λ_ j=>⟨O7.at j,zL.at j,aa7.at j,aa8.at j,aa9.at j,trivial⟩) (λ_ _=>by kernel_rfl)
def q9 {ρ:Type}(k:Nat):Nat->Int->T6->(List T5)->(List Int)->(List T16)->(((T1×((List T16)×Unit))->Option ρ)×Unit)->Option ρ|0,_,_,_,_,_,_=>none|j+1,v12,v13,v14,v15,v16,nx=>bif(decide (v12<(v13.length:Int)))then(f33 k (v13,v14) v15 v12).bind λx17=>bif decide ((v16.length+[(x17.1.1.1,(x17.1.1.2.1,(x17.1.1.2.2.1,(x17.1.1.2.2.2.1,(x17.1.1.2.2.2.2.1,x17.1.1.2.2.2.2.2.1)))))].length)*24≤roomy)then let x18:(List T16):=(v16++[(x17.1.1.1,(x17.1.1.2.1,(x17.1.1.2.2.1,(x17.1.1.2.2.2.1,(x17.1.1.2.2.2.2.1,x17.1.1.2.2.2.2.2.1)))))]);q9 k j (wr .i64 (v12+1)) v13 v14 v15 x18 nx else none else nx.1 (((),()),(v16,()))
def Gn (k:Nat):Cut:=⟨⟨[(1,.c (.box 5000000)),(5,.c (.row 5000001)),(7,.c (.row 5000002)),(8,.c (.int .i64))],[(5000000,.box 31 k2),(5000001,.row 2 (.int .i64)),(5000002,.row 36 u7)],[]⟩,[(.exit 0,⟨[(7,.c (.row 5000000))],[(5000000,.row 36 u7)],[]⟩)],λρ j v nx=>q9 k j v.1.2.2.2.1 v.2.1.1 v.2.1.2.1 v.2.2.1 v.2.2.2.1 nx⟩
def f21 (k:Nat)(a1:T6)(a2:(List T5)):Option ((Unit×Int×Unit)×((List T16)×Unit)):=(f40 k (a1,a2)).bind λx10=>bif(!x10.1.2.2.1)then some (((),1,()),(([]:List T16),()))else q9 k k 0 a1 a2 x10.2.2.1 ([]:List T16) (λx11:(T1×((List T16)×Unit))=>some (((),0,()),(x11.2.1,())),())
def MH :af:=⟨21,⟨[(0,.agg k2)],[],[]⟩,⟨[(0,.c (.row 4000000)),(1,.c (.int .i64))],[(4000000,.row 36 u7)],[]⟩,λk v=>f21 k v.1.1.1 v.1.1.2.1⟩
def Vo (k:Nat):Full:=fl k 31 [ML,MI] (cuts:=[(6,(Gn k))])
theorem SK (k:Nat):aF (Vo k) (Gn k) (au Tryz.f21 6):=λρ v nx=>⟨by kernel_rfl,λj=>by kernel_rfl⟩
theorem Wo :SN MH:=so Tryz.func21 Vo (λ_ j=>⟨Wt.at j,Wp.at j,trivial⟩) (λ_ _=>by kernel_rfl) (hob:=λk=>Eq.mpr (by kernel_rfl) (And.intro (SK k) (trivial)))
def k9 {ρ:Type}(k:Nat):Nat->Int->(List T16)->(List Int)->(((T1×T12)->Option ρ)×Unit)->Option ρ|0,_,_,_,_=>none|j+1,v14,v15,v16,nx=>bif(decide (v14<(v15.length:Int)))then bif decide (0≤v14)&&decide (v14<(v15.length:Int))then(v15[v14.toNat]?).bind λx17=>bif(!x17.2.2.2.1)then bif decide (0≤v14)&&decide (v14<(v15.length:Int))then(v15[v14.toNat]?).bind λx18=>bif decide ((v16.length+[x18.1].length)*8≤roomy)then k9 k j (wr .i64 (v14+1)) v15 (v16++[x18.1]) nx else none else none else bif decide (0≤v14)&&decide (v14<(v15.length:Int))then(v15[v14.toNat]?).bind λx19=>bif(!x19.2.2.2.2.1)then bif decide (0≤v14)&&decide (v14<(v15.length:Int))then(v15[v14.toNat]?).bind λx20=>bif decide ((v16.length+[x20.1].length)*8≤roomy)then k9 k j (wr .i64 (v14+1)) v15 (v16++[x20.1]) nx else none else none else bif decide (0≤v14)&&decide (v14<(v15.length:Int))then(v15[v14.toNat]?).bind λx21=>bif(!x21.2.2.2.2.2)then bif decide (0≤v14)&&decide (v14<(v15.length:Int))then(v15[v14.toNat]?).bind λx22=>bif decide ((v16.length+[x22.1].length)*8≤roomy)then k9 k j (wr .i64 (v14+1)) v15 (v16++[x22.1]) nx else none else none else k9 k j (wr .i64 (v14+1)) v15 v16 nx else none else none else none else nx.1 (((),()),(v16,()))
def Gi (k:Nat):Cut:=⟨⟨[(4,.c (.row 5000000)),(6,.c (.row 5000001)),(7,.c (.int .i64))],[(5000000,.row 36 u7),(5000001,.row 2 (.int .i64))],[]⟩,[(.exit 0,⟨[(6,.c (.row 5000000))],[(5000000,.row 2 (.int .i64))],[]⟩)],λρ j v nx=>k9 k j v.1.2.2.1 v.2.1 v.2.2.1 nx⟩
def f15 (k:Nat)(a1:T6)(a2:(List T5)):Option ((Unit×Int×Unit)×T12):=(f21 k a1 a2).bind λx12=>bif(x12.1.2.1 !=0)then some (((),x12.1.2.1,()),(([]:List Int),()))else k9 k k 0 x12.2.1 ([]:List Int) (λx13:(T1×T12)=>some (((),0,()),(x13.2.1,())),())
def ME :af:=⟨15,⟨[(0,.agg k2)],[],[]⟩,⟨[(0,.c (.row 4000000)),(1,.c (.int .i64))],[(4000000,.row 2 (.int .i64))],[]⟩,λk v=>f15 k v.1.1.1 v.1.1.2.1⟩
def Vi (k:Nat):Full:=fl k 54 [MH] (cuts:=[(6,(Gi k))])
theorem SF (k:Nat):aF (Vi k) (Gi k) (au Tryz.f15 6):=λρ v nx=>⟨by kernel_rfl,λj=>by kernel_rfl⟩
theorem Wj :SN ME:=so Tryz.func15 Vi (λ_ j=>⟨Wo.at j,trivial⟩) (λ_ _=>by kernel_rfl) (hob:=λk=>Eq.mpr (by kernel_rfl) (And.intro (SF k) (trivial)))
def f8 (k:Nat)(a1:T6)(a2:(List T5)):Option (T2×Unit):=(f15 k a1 a2).bind λx2=>bif(x2.1.2.1==0)then some ((((x2.2.1.length:Int)==0),()),())else some ((false,()),())
def ef8 :af:=ee 8 [(0,.agg k2)] [(0,.c .bool)] λk v=>f8 k v.1.1.1 v.1.1.2.1
def gf8 (k:Nat):Full:=fl k 17 [ME]
theorem sf8 :SN ef8:=so Tryz.func8 gf8 (λ_ j=>⟨Wj.at j,trivial⟩) (λ_ _=>by kernel_rfl)
def f90 (k:Nat)(a1 a2 a3:Int):Option (T2×Unit):=bif(decide (a1≥a2))then some (((decide (a1≤a3)),()),())else some ((false,()),())
def wT :af:=ee 90 [(0,.c (.int .i64)),(1,.c (.int .i64)),(2,.c (.int .i64))] [(0,.c .bool)] λk v=>f90 k v.1.1 v.1.2.1 v.1.2.2.1
def aaq (k:Nat):Full:=fl k 15 []
theorem zM :SN wT:=so Tryz.func90 aaq (λ_ _=>trivial) (λ_ _=>by kernel_rfl)
def f157 (k:Nat)(a1 a2 a3:Int):Option (T2×Unit):=(f90 k a1 (-131072) 131072).bind λx4=>bif x4.1.1 then(f90 k a2 (-131072) 131072).bind λx5=>bif x5.1.1 then(f90 k a3 0 10).bind λx6=>bif x6.1.1 then bif(a3==0)then some ((true,()),())else bif((fc .i64 a1 1)==1)then some ((true,()),())else some ((((fc .i64 a2 1)==1),()),())else some ((false,()),())else some ((false,()),())else some ((false,()),())
def P3 :af:=ee 157 [(0,.agg k0)] [(0,.c .bool)] λk v=>f157 k v.1.1.1 v.1.1.2.1 v.1.1.2.2.1
def Xm (k:Nat):Full:=fl k 33 [wT]
theorem YQ :SN P3:=so Tryz.func157 Xm (λ_ j=>⟨zM.at j,trivial⟩) (λ_ _=>by kernel_rfl)
def f106 (k:Nat)(a1 a2 a3 a4 a5 a6:Int):Option (T2×Unit):=(f157 k a1 a2 a3).bind λx3=>bif x3.1.1 then(f157 k a4 a5 a6).bind λx4=>some ((x4.1.1,()),())else some ((false,()),())
def H7 :af:=ee 106 [(0,.agg k1)] [(0,.c .bool)] λk v=>f106 k v.1.1.1 v.1.1.2.1 v.1.1.2.2.1 v.1.1.2.2.2.1 v.1.1.2.2.2.2.1 v.1.1.2.2.2.2.2.1
def WX (k:Nat):Full:=fl k 11 [P3]
theorem RJ :SN H7:=so Tryz.func106 WX (λ_ j=>⟨YQ.at j,trivial⟩) (λ_ _=>by kernel_rfl)
def f175 (k:Nat)(a1 a2 a3:Int):Option (T20×Unit):=
 some ((((wr .i64 (0-a1)),(wr .i64 (0-a2)),a3,()),()),())
def Is :af:=ee 175 [(0,.agg k0)] [(0,.agg k0)] λk v=>f175 k v.1.1.1 v.1.1.2.1 v.1.1.2.2.1
def XB (k:Nat):Full:=fl k 12 []
theorem R2 :SN Is:=so Tryz.func175 XB (λ_ _=>trivial) (λ_ _=>by kernel_rfl)
def fD {ρ:Type}(k:Nat):Nat->Int->Int->Int->Int->Int->Int->((((Unit×Unit×Unit)×T21)->Option ρ)×Unit)->Option ρ|0,_,_,_,_,_,_,_=>none|j+1,v9,v10,v11,v12,v13,v14,nx=>bif(decide (v11>0))then bif((fc .i64 v9 1)==0)then bif((fc .i64 v10 1)==0)then bif((wr .i64 (v9.tdiv 2))==0)then bif((wr .i64 (v10.tdiv 2))==0)then fD k j (wr .i64 (v9.tdiv 2)) (wr .i64 (v10.tdiv 2)) 0 v12 v13 v14 nx else fD k j (wr .i64 (v9.tdiv 2)) (wr .i64 (v10.tdiv 2)) (wr .i64 (v11-1)) v12 v13 v14 nx else fD k j (wr .i64 (v9.tdiv 2)) (wr .i64 (v10.tdiv 2)) (wr .i64 (v11-1)) v12 v13 v14 nx else nx.1 (((),(),()),((v9,v10,v11,()),(v12,v13,v14,()),()))else nx.1 (((),(),()),((v9,v10,v11,()),(v12,v13,v14,()),()))else nx.1 (((),(),()),((v9,v10,v11,()),(v12,v13,v14,()),()))
def DM (k:Nat):Cut:=⟨⟨[(1,.c (.box 5000000)),(2,.c (.box 5000001))],[(5000000,.box 69 k0),(5000001,.box 69 k0)],[]⟩,[(.exit 0,⟨[(1,.c (.box 5000000)),(2,.c (.box 5000001))],[(5000000,.box 69 k0),(5000001,.box 69 k0)],[]⟩)],λρ j v nx=>fD k j v.2.1.1 v.2.1.2.1 v.2.1.2.2.1 v.2.2.1.1 v.2.2.1.2.1 v.2.2.1.2.2.1 nx⟩
def f233 (k:Nat)(a1 a2 a3:Int):Option (T20×Unit):=
 fD k k a1 a2 a3 0 0 0
  (λx8:((Unit×Unit×Unit)×T21)=>some (((x8.2.1.1,x8.2.1.2.1,x8.2.1.2.2.1,()),()),()),
  ())
def Cb :af:=ee 233 [(0,.agg k0)] [(0,.agg k0)] λk v=>f233 k v.1.1.1 v.1.1.2.1 v.1.1.2.2.1
def Ru (k:Nat):Full:=fl k 40 [] (cuts:=[(1,(DM k))])
theorem Ov (k:Nat):aF (Ru k) (DM k) (au Tryz.f233 1):=λρ v nx=>⟨by kernel_rfl,λj=>by kernel_rfl⟩
theorem JP :SN Cb:=so Tryz.func233 Ru (λ_ _=>trivial) (λ_ _=>by kernel_rfl) (hob:=λk=>Eq.mpr (by kernel_rfl) (And.intro (Ov k) (trivial)))
def f208 (k:Nat)(a1 a2 a3 a4 a5 a6:Int):Option (T20×Unit):=let x8:Int:=(wr .i64 ((bif decide (a6>a3)then a6 else a3)-a3));bif decide (x8<0)then none else let x9:Int:=(wr .i64 ((bif decide (a6>a3)then a6 else a3)-a6));bif decide (x9<0)then none else let x10:Int:=(wr .i64 ((fe .i64 a1 x8)+(fe .i64 a4 x9)));let x11:Int:=(wr .i64 ((bif decide (a6>a3)then a6 else a3)-a3));bif decide (x11<0)then none else let x12:Int:=(wr .i64 ((bif decide (a6>a3)then a6 else a3)-a6));bif decide (x12<0)then none else let x13:Int:=(wr .i64 ((fe .i64 a2 x11)+(fe .i64 a5 x12)));(f233 k x10 x13 (bif decide (a6>a3)then a6 else a3)).bind λx14=>some (((x14.1.1.1,x14.1.1.2.1,x14.1.1.2.2.1,()),()),())
def Iy :af:=ee 208 [(0,.agg k0),(1,.agg k0)] [(0,.agg k0)] λk v=>f208 k v.1.1.1 v.1.1.2.1 v.1.1.2.2.1 v.1.2.1.1 v.1.2.1.2.1 v.1.2.1.2.2.1
def XS (k:Nat):Full:=fl k 44 [Cb] (touch:=[(2,[(33,[4])])])
theorem R8 :SN Iy:=so Tryz.func208 XS (λ_ j=>⟨JP.at j,trivial⟩) (λ_ _=>by kernel_rfl)
def f206 (k:Nat)(a1 a2 a3 a4 a5 a6:Int):Option (T20×Unit):=
 (f175 k a4 a5 a6).bind λx3=>
 (f208 k a1 a2 a3 x3.1.1.1 x3.1.1.2.1 x3.1.1.2.2.1).bind λx4=>
 some (((x4.1.1.1,x4.1.1.2.1,x4.1.1.2.2.1,()),()),())
def u9 :af:=ee 206 [(0,.agg k0),(1,.agg k0)] [(0,.agg k0)] λk v=>f206 k v.1.1.1 v.1.1.2.1 v.1.1.2.2.1 v.1.2.1.1 v.1.2.1.2.1 v.1.2.1.2.2.1
def XQ (k:Nat):Full:=fl k 9 [Is,Iy] (touch:=[(1,[(4,[4])])])
theorem yB :SN u9:=so Tryz.func206 XQ (λ_ j=>⟨R2.at j,R8.at j,trivial⟩) (λ_ _=>by kernel_rfl)
def f209 (k:Nat)(a1:Int):Option (T0×Unit):=let x2:Int:=(bif decide ((bif decide (a1<1)then a1 else 1)>(-1))then(bif decide (a1<1)then a1 else 1)else(-1));some ((x2,()),())
def Qt :af:=ee 209 [(0,.c (.int .i64))] [(0,.c (.int .i64))] λk v=>f209 k v.1.1
def XT (k:Nat):Full:=fl k 6 []
theorem Zh :SN Qt:=so Tryz.func209 XT (λ_ _=>trivial) (λ_ _=>by kernel_rfl)
def f152 (k:Nat)(a1:Int):Option (T0×Unit):=let x2:Int:=(bif decide ((wr .i64 (0-a1))>a1)then(wr .i64 (0-a1))else a1);some ((x2,()),())
def Io :af:=ee 152 [(0,.c (.int .i64))] [(0,.c (.int .i64))] λk v=>f152 k v.1.1
def Xl (k:Nat):Full:=fl k 7 []
theorem RX :SN Io:=so Tryz.func152 Xl (λ_ _=>trivial) (λ_ _=>by kernel_rfl)
def f234 (k:Nat)(a1 a2:Int):Option (T4×Unit):=
 let x8:Int:=(wr .u64 ((fc .u64 a1 4294967295)*(fc .u64 a2 4294967295)))
 let x9:Int:=(wr .u64 ((fy .u64 a1 32)*(fc .u64 a2 4294967295)))
 let x10:Int:=(fc .u64 (wr .u64 (x9+(fy .u64 x8 32))) 4294967295)
 let x11:Int:=(fy .u64 (wr .u64 (x9+(fy .u64 x8 32))) 32)
 let x12:Int:=(wr .u64 ((fc .u64 a1 4294967295)*(fy .u64 a2 32)))
 let x13:Int:=(wr .u64 ((fy .u64 a1 32)*(fy .u64 a2 32)))
 let x14:Int:=(wr .u64 ((wr .u64 (x13+x11))+(fy .u64 (wr .u64 (x10+x12)) 32)))
 some ((x14,(wr .u64 (a1*a2)),()),())
def QM :af:=ee 234 [(0,.c (.int .u64)),(1,.c (.int .u64))] [(0,.c (.int .u64)),(1,.c (.int .u64))] λk v=>f234 k v.1.1 v.1.2.1
def Yd (k:Nat):Full:=fl k 51 []
theorem ZA :SN QM:=so Tryz.func234 Yd (λ_ _=>trivial) (λ_ _=>by kernel_rfl)
def f210 (k:Nat)(a1 a2:Int):Option (T2×Unit):=(f152 k a1).bind λx8=>(f152 k a1).bind λx9=>(f234 k (wr .u64 x8.1.1) (wr .u64 x9.1.1)).bind λx10=>(f152 k a2).bind λx11=>(f152 k a2).bind λx12=>(f234 k (wr .u64 x11.1.1) (wr .u64 x12.1.1)).bind λx13=>let x14:Int:=(ior .u64 (fe .u64 x13.1.1 1) (fy .u64 x13.1.2.1 63));bif(decide (x10.1.1>x14))then some ((true,()),())else bif(x10.1.1==x14)then let x15:Bool:=(decide (x10.1.2.1>(fe .u64 x13.1.2.1 1)));some ((x15,()),())else some ((false,()),())
def Qu :af:=ee 210 [(0,.c (.int .i64)),(1,.c (.int .i64))] [(0,.c .bool)] λk v=>f210 k v.1.1 v.1.2.1
def XU (k:Nat):Full:=fl k 49 [Io,QM]
theorem Zi :SN Qu:=so Tryz.func210 XU (λ_ j=>⟨RX.at j,ZA.at j,trivial⟩) (λ_ _=>by kernel_rfl)
def f162 (k:Nat)(a1 a2 a3:Int):Option (T0×Unit):=(f209 k a1).bind λx4=>(f209 k a2).bind λx5=>bif(x4.1.1==x5.1.1)then some ((x4.1.1,()),())else bif(x5.1.1==0)then some ((x4.1.1,()),())else bif(x4.1.1==0)then some ((x5.1.1,()),())else(f210 k a1 a2).bind λx6=>bif(!x6.1.1)then some ((x5.1.1,()),())else some ((x4.1.1,()),())
def uZ :af:=ee 162 [(0,.agg k0)] [(0,.c (.int .i64))] λk v=>f162 k v.1.1.1 v.1.1.2.1 v.1.1.2.2.1
def Xr (k:Nat):Full:=fl k 33 [Qt,Qu]
theorem yA :SN uZ:=so Tryz.func162 Xr (λ_ j=>⟨Zh.at j,Zi.at j,trivial⟩) (λ_ _=>by kernel_rfl)
def f158 (k:Nat)(a1 a2 a3 a4 a5 a6:Int):Option (T0×Unit):=
 (f206 k a1 a2 a3 a4 a5 a6).bind λx3=>
 (f162 k x3.1.1.1 x3.1.1.2.1 x3.1.1.2.2.1).bind λx4=>
 some ((x4.1.1,()),())
def B4 :af:=ee 158 [(0,.agg k0),(1,.agg k0)] [(0,.c (.int .i64))] λk v=>f158 k v.1.1.1 v.1.1.2.1 v.1.1.2.2.1 v.1.2.1.1 v.1.2.1.2.1 v.1.2.1.2.2.1
def Xn (k:Nat):Full:=fl k 9 [u9,uZ]
theorem JI :SN B4:=so Tryz.func158 Xn (λ_ j=>⟨yB.at j,yA.at j,trivial⟩) (λ_ _=>by kernel_rfl)
def f107 (k:Nat)(a1 a2 a3 a4 a5 a6 a7 a8 a9 a10 a11 a12:Int):Option (T0×Unit):=(f158 k a1 a2 a3 a7 a8 a9).bind λx3=>bif(x3.1.1 !=0)then some ((x3.1.1,()),())else(f158 k a4 a5 a6 a10 a11 a12).bind λx4=>some ((x4.1.1,()),())
def H8 :af:=ee 107 [(0,.agg k1),(1,.agg k1)] [(0,.c (.int .i64))] λk v=>f107 k v.1.1.1 v.1.1.2.1 v.1.1.2.2.1 v.1.1.2.2.2.1 v.1.1.2.2.2.2.1 v.1.1.2.2.2.2.2.1 v.1.2.1.1 v.1.2.1.2.1 v.1.2.1.2.2.1 v.1.2.1.2.2.2.1 v.1.2.1.2.2.2.2.1 v.1.2.1.2.2.2.2.2.1
def WY (k:Nat):Full:=fl k 19 [B4]
theorem RK :SN H8:=so Tryz.func107 WY (λ_ j=>⟨JI.at j,trivial⟩) (λ_ _=>by kernel_rfl)
def pe {ρ:Type}(k:Nat):Nat->T6->Int->Int->T6->(List T5)->(((T1×(T18×Unit))->Option ρ)×((T2×Unit)->Option ρ)×Unit)->Option ρ|0,_,_,_,_,_,_=>none|j+1,v14,v15,v16,v17,v18,nx=>bif(decide (v16<v15))then(aq v14 v16).bind λx19=>(f106 k x19.1.1 x19.1.2.1 x19.1.2.2 x19.2.1 x19.2.2.1 x19.2.2.2).bind λx20=>bif(!x20.1.1)then nx.2.1 ((false,()),())else bif(decide (v16>0))then(aq v17 (wr .i64 (v16-1))).bind λx21=>(f107 k x21.1.1 x21.1.2.1 x21.1.2.2 x21.2.1 x21.2.2.1 x21.2.2.2 x19.1.1 x19.1.2.1 x19.1.2.2 x19.2.1 x19.2.2.1 x19.2.2.2).bind λx22=>bif(decide (x22.1.1≥0))then nx.2.1 ((false,()),())else pe k j v14 v15 (wr .i64 (v16+1)) v17 v18 nx else pe k j v14 v15 (wr .i64 (v16+1)) v17 v18 nx else nx.1 (((),()),((v17,v18,()),()))
def GH (k:Nat):Cut:=⟨⟨[(1,.c (.box 5000000)),(6,.c (.sl (.pair u1 u1))),(7,.c (.int .i64)),(8,.c (.int .i64))],[(5000000,.box 31 k2)],[]⟩,[(.exit 0,⟨[(1,.c (.box 5000000))],[(5000000,.box 31 k2)],[]⟩),(.ret,⟨[(2,.c .bool)],[],[]⟩)],λρ j v nx=>pe k j v.1.2.1 v.1.2.2.1 v.1.2.2.2.1 v.2.1.1 v.2.1.2.1 nx⟩
def f58 (k:Nat)(a1:T6)(a2:(List T5)):Option (T2×Unit):=
 pe k k a1 (a1.length:Int) 0 a1 a2
  (λx12:(T1×(T18×Unit))=>some (((decide ((x12.2.1.1.length:Int)≤40)),()),()),
  λx13:(T2×Unit)=>some ((x13.1.1,()),()),
  ())
def UN :af:=ee 58 [(0,.agg k2)] [(0,.c .bool)] λk v=>f58 k v.1.1.1 v.1.1.2.1
def VE (k:Nat):Full:=fl k 36 [H7,H8] (cuts:=[(2,(GH k))])
theorem S7 (k:Nat):aF (VE k) (GH k) (au Tryz.f58 2):=λρ v nx=>⟨by kernel_rfl,λj=>by kernel_rfl⟩
theorem abe :SN UN:=so Tryz.func58 VE (λ_ j=>⟨RJ.at j,RK.at j,trivial⟩) (λ_ _=>by kernel_rfl) (hob:=λk=>Eq.mpr (by kernel_rfl) (And.intro (S7 k) (trivial)))
def f67 (k:Nat)(a1:T6):Option (T0×Unit):=
 some (((a1.length:Int),()),())
def Ei :af:=ee 67 [(0,.c (.sl (.pair u1 u1)))] [(0,.c (.int .i64))] λk v=>f67 k v.1.1
def aai (k:Nat):Full:=fl k 5 []
theorem JR :SN Ei:=so Tryz.func67 aai (λ_ _=>trivial) (λ_ _=>by kernel_rfl)
def f63 (k:Nat)(a1:T6)(a2:(List T5))(a3 a4 a5:Int):Option T28:=
 (aq a1 a3).bind λx2=>
 some (((x2.1.1,x2.1.2.1,x2.1.2.2,x2.2.1,x2.2.2.1,x2.2.2.2,()),()),())
def IH :af:=ee 63 [(0,.agg k2),(1,.agg k0)] [(0,.agg k1)] λk v=>f63 k v.1.1.1 v.1.1.2.1 v.1.2.1.1 v.1.2.1.2.1 v.1.2.1.2.2.1
def aaf (k:Nat):Full:=fl k 11 []
theorem O9 :SN IH:=so Tryz.func63 aaf (λ_ _=>trivial) (λ_ _=>by kernel_rfl)
def f64 (k:Nat)(a1:T6)(a2:(List T5))(a3 a4 a5:Int):Option T28:=
 (aq a1 a4).bind λx2=>
 some (((x2.1.1,x2.1.2.1,x2.1.2.2,x2.2.1,x2.2.2.1,x2.2.2.2,()),()),())
def II :af:=ee 64 [(0,.agg k2),(1,.agg k0)] [(0,.agg k1)] λk v=>f64 k v.1.1.1 v.1.1.2.1 v.1.2.1.1 v.1.2.1.2.1 v.1.2.1.2.2.1
def aag (k:Nat):Full:=fl k 11 []
theorem Pa :SN II:=so Tryz.func64 aag (λ_ _=>trivial) (λ_ _=>by kernel_rfl)
def f159 (k:Nat)(a1 a2 a3 a4 a5 a6 a7 a8 a9 a10 a11 a12:Int):Option T28:=
 (f206 k a1 a2 a3 a7 a8 a9).bind λx3=>
 (f206 k a4 a5 a6 a10 a11 a12).bind λx4=>
 some (((x3.1.1.1,x3.1.1.2.1,x3.1.1.2.2.1,x4.1.1.1,x4.1.1.2.1,x4.1.1.2.2.1,()),()),())
def B5 :af:=ee 159 [(0,.agg k1),(1,.agg k1)] [(0,.agg k1)] λk v=>f159 k v.1.1.1 v.1.1.2.1 v.1.1.2.2.1 v.1.1.2.2.2.1 v.1.1.2.2.2.2.1 v.1.1.2.2.2.2.2.1 v.1.2.1.1 v.1.2.1.2.1 v.1.2.1.2.2.1 v.1.2.1.2.2.2.1 v.1.2.1.2.2.2.2.1 v.1.2.1.2.2.2.2.2.1
def Xo (k:Nat):Full:=fl k 16 [u9] (touch:=[(1,[(11,[4])])])
theorem JJ :SN B5:=so Tryz.func159 Xo (λ_ j=>⟨yB.at j,trivial⟩) (λ_ _=>by kernel_rfl)
def f121 (k:Nat)(a1:Int):Option T28:=bif(decide (a1≥8))then bif decide (0≤(wr .i64 (a1-8)))&&decide ((wr .i64 (a1-8))<(8:Int))then(Pn[(wr .i64 (a1-8)).toNat]?).bind λx5=>(f175 k x5.1.1 x5.1.2.1 x5.1.2.2).bind λx6=>(f175 k x5.2.1 x5.2.2.1 x5.2.2.2).bind λx7=>some (((x6.1.1.1,x6.1.1.2.1,x6.1.1.2.2.1,x7.1.1.1,x7.1.1.2.1,x7.1.1.2.2.1,()),()),())else none else bif decide (0≤a1)&&decide (a1<(8:Int))then(Pn[a1.toNat]?).bind λx8=>some (((x8.1.1,x8.1.2.1,x8.1.2.2,x8.2.1,x8.2.2.1,x8.2.2.2,()),()),())else none
def BZ :af:=ee 121 [(0,.c (.int .i64))] [(0,.agg k1)] λk v=>f121 k v.1.1
def W5 (k:Nat):Full:=fl k 20 [Is] (touch:=[(3,[(7,[2])])])
theorem JG :SN BZ:=so Tryz.func121 W5 (λ_ j=>⟨R2.at j,trivial⟩) (λ_ _=>by kernel_rfl)
def f207 (k:Nat)(a1 a2 a3 a4 a5 a6:Int):Option (T20×Unit):=
 let x4:Int:=(wr .i64 ((wr .i64 (a1*a4))+(wr .i64 ((wr .i64 (2*a2))*a5))))
 let x5:Int:=(wr .i64 ((wr .i64 (a1*a5))+(wr .i64 (a2*a4))))
 (f233 k x4 x5 (wr .i64 (a3+a6))).bind λx6=>
 some (((x6.1.1.1,x6.1.1.2.1,x6.1.1.2.2.1,()),()),())
def xQ :af:=ee 207 [(0,.agg k0),(1,.agg k0)] [(0,.agg k0)] λk v=>f207 k v.1.1.1 v.1.1.2.1 v.1.1.2.2.1 v.1.2.1.1 v.1.2.1.2.1 v.1.2.1.2.2.1
def XR (k:Nat):Full:=fl k 35 [Cb]
theorem Cj :SN xQ:=so Tryz.func207 XR (λ_ j=>⟨JP.at j,trivial⟩) (λ_ _=>by kernel_rfl)
def f160 (k:Nat)(a1 a2 a3 a4 a5 a6 a7 a8 a9 a10 a11 a12:Int):Option (T20×Unit):=
 (f207 k a1 a2 a3 a10 a11 a12).bind λx4=>
 (f207 k a4 a5 a6 a7 a8 a9).bind λx5=>
 (f206 k x4.1.1.1 x4.1.1.2.1 x4.1.1.2.2.1 x5.1.1.1 x5.1.1.2.1 x5.1.1.2.2.1).bind λx6=>
 some (((x6.1.1.1,x6.1.1.2.1,x6.1.1.2.2.1,()),()),())
def B6 :af:=ee 160 [(0,.agg k1),(1,.agg k1)] [(0,.agg k0)] λk v=>f160 k v.1.1.1 v.1.1.2.1 v.1.1.2.2.1 v.1.1.2.2.2.1 v.1.1.2.2.2.2.1 v.1.1.2.2.2.2.2.1 v.1.2.1.1 v.1.2.1.2.1 v.1.2.1.2.2.1 v.1.2.1.2.2.2.1 v.1.2.1.2.2.2.2.1 v.1.2.1.2.2.2.2.2.1
def Xp (k:Nat):Full:=fl k 16 [xQ,u9] (touch:=[(1,[(11,[4])])])
theorem JK :SN B6:=so Tryz.func160 Xp (λ_ j=>⟨Cj.at j,yB.at j,trivial⟩) (λ_ _=>by kernel_rfl)
def f161 (k:Nat)(a1 a2 a3 a4 a5 a6 a7 a8 a9 a10 a11 a12:Int):Option (T20×Unit):=
 (f207 k a1 a2 a3 a7 a8 a9).bind λx4=>
 (f207 k a4 a5 a6 a10 a11 a12).bind λx5=>
 (f208 k x4.1.1.1 x4.1.1.2.1 x4.1.1.2.2.1 x5.1.1.1 x5.1.1.2.1 x5.1.1.2.2.1).bind λx6=>
 some (((x6.1.1.1,x6.1.1.2.1,x6.1.1.2.2.1,()),()),())
def uY :af:=ee 161 [(0,.agg k1),(1,.agg k1)] [(0,.agg k0)] λk v=>f161 k v.1.1.1 v.1.1.2.1 v.1.1.2.2.1 v.1.1.2.2.2.1 v.1.1.2.2.2.2.1 v.1.1.2.2.2.2.2.1 v.1.2.1.1 v.1.2.1.2.1 v.1.2.1.2.2.1 v.1.2.1.2.2.2.1 v.1.2.1.2.2.2.2.1 v.1.2.1.2.2.2.2.2.1
def Xq (k:Nat):Full:=fl k 16 [xQ,Iy] (touch:=[(1,[(11,[4])])])
theorem yz :SN uY:=so Tryz.func161 Xq (λ_ j=>⟨Cj.at j,R8.at j,trivial⟩) (λ_ _=>by kernel_rfl)
def lL {ρ:Type}(k:Nat):Nat->Int->Int->Int->Int->Int->Int->Int->((T1->Option ρ)×((T0×Unit)->Option ρ)×Unit)->Option ρ|0,_,_,_,_,_,_,_,_=>none|j+1,v19,v20,v21,v22,v23,v24,v25,nx=>bif(decide (v19<16))then(f121 k v19).bind λx26=>(f160 k x26.1.1.1 x26.1.1.2.1 x26.1.1.2.2.1 x26.1.1.2.2.2.1 x26.1.1.2.2.2.2.1 x26.1.1.2.2.2.2.2.1 v20 v21 v22 v23 v24 v25).bind λx27=>let x28:Bool:=((x27.1.1.1==0)&&((x27.1.1.2.1==0)&&((x27.1.1.2.2.1==0)&&true)));bif x28 then(f161 k x26.1.1.1 x26.1.1.2.1 x26.1.1.2.2.1 x26.1.1.2.2.2.1 x26.1.1.2.2.2.2.1 x26.1.1.2.2.2.2.2.1 v20 v21 v22 v23 v24 v25).bind λx29=>(f162 k x29.1.1.1 x29.1.1.2.1 x29.1.1.2.2.1).bind λx30=>bif(decide (x30.1.1>0))then nx.2.1 ((v19,()),())else lL k j (wr .i64 (v19+1)) v20 v21 v22 v23 v24 v25 nx else lL k j (wr .i64 (v19+1)) v20 v21 v22 v23 v24 v25 nx else nx.1 ((),())
def CJ (k:Nat):Cut:=⟨⟨[(5,.c (.box 5000000)),(11,.c (.int .i64))],[(5000000,.box 71 k1)],[]⟩,[(.exit 0,⟨[],[],[]⟩),(.ret,⟨[(4,.c (.int .i64))],[],[]⟩)],λρ j v nx=>lL k j v.1.2.1 v.2.1.1 v.2.1.2.1 v.2.1.2.2.1 v.2.1.2.2.2.1 v.2.1.2.2.2.2.1 v.2.1.2.2.2.2.2.1 nx⟩
def f108 (k:Nat)(a1 a2 a3 a4 a5 a6 a7 a8 a9 a10 a11 a12:Int):Option (T0×Unit):=
 (f159 k a7 a8 a9 a10 a11 a12 a1 a2 a3 a4 a5 a6).bind λx16=>
 lL k k 0 x16.1.1.1 x16.1.1.2.1 x16.1.1.2.2.1 x16.1.1.2.2.2.1 x16.1.1.2.2.2.2.1 x16.1.1.2.2.2.2.2.1
  (λx17:T1=>some (((-1),()),()),
  λx18:(T0×Unit)=>some ((x18.1.1,()),()),
  ())
def qa :af:=ee 108 [(0,.agg k1),(1,.agg k1)] [(0,.c (.int .i64))] λk v=>f108 k v.1.1.1 v.1.1.2.1 v.1.1.2.2.1 v.1.1.2.2.2.1 v.1.1.2.2.2.2.1 v.1.1.2.2.2.2.2.1 v.1.2.1.1 v.1.2.1.2.1 v.1.2.1.2.2.1 v.1.2.1.2.2.2.1 v.1.2.1.2.2.2.2.1 v.1.2.1.2.2.2.2.2.1
def QV (k:Nat):Full:=fl k 30 [B5,BZ,B6,uY,uZ] (cuts:=[(3,(CJ k))])
theorem Nt (k:Nat):aF (QV k) (CJ k) (au Tryz.f108 3):=λρ v nx=>⟨by kernel_rfl,λj=>by kernel_rfl⟩
theorem te :SN qa:=so Tryz.func108 QV (λ_ j=>⟨JJ.at j,JG.at j,JK.at j,yz.at j,yA.at j,trivial⟩) (λ_ _=>by kernel_rfl) (hob:=λk=>Eq.mpr (by kernel_rfl) (And.intro (Nt k) (trivial)))
def f143 (k:Nat)(a1:Int):Option (T2×Unit):=
 some (((a1 !=a1),()),())
def PR :af:=ee 143 [(0,.c (.int .i64))] [(0,.c .bool)] λk v=>f143 k v.1.1
def Xg (k:Nat):Full:=fl k 6 []
theorem YE :SN PR:=so Tryz.func143 Xg (λ_ _=>trivial) (λ_ _=>by kernel_rfl)
def f93 (k:Nat)(a1 a2:Int):Option (T0×Unit):=(f143 k a1).bind λx3=>(f143 k a2).bind λx4=>bif x3.1.1 then bif x4.1.1 then some ((0,()),())else some (((-1),()),())else bif x4.1.1 then some ((1,()),())else bif(decide (a1<a2))then some (((-1),()),())else bif(decide (a1>a2))then some ((1,()),())else some ((0,()),())
def MR :af:=ee 93 [(0,.c (.int .i64)),(1,.c (.int .i64))] [(0,.c (.int .i64))] λk v=>f93 k v.1.1 v.1.2.1
def aat (k:Nat):Full:=fl k 20 [PR]
theorem Wz :SN MR:=so Tryz.func93 aat (λ_ j=>⟨YE.at j,trivial⟩) (λ_ _=>by kernel_rfl)
def oe {ρ:Type}(k:Nat):Nat->Int->(List Int)->Int->Int->(((T0×Unit)->Option ρ)×((T0×Unit)->Option ρ)×Unit)->Option ρ|0,_,_,_,_,_=>none|j+1,v10,v11,v12,v13,nx=>bif(decide (v13<v12))then(aq v11 v13).bind λx14=>bif(x14 !=v10)then nx.2.1 ((x14,()),())else oe k j v10 v11 v12 (wr .i64 (v13+1)) nx else nx.1 ((v10,()),())
def CL (k:Nat):Cut:=⟨⟨[(3,.c (.int .i64)),(6,.c (.sl (.int .i64))),(7,.c (.int .i64)),(8,.c (.int .i64))],[],[]⟩,[(.exit 0,⟨[(3,.c (.int .i64))],[],[]⟩),(.ret,⟨[(2,.c (.int .i64))],[],[]⟩)],λρ j v nx=>oe k j v.1.1 v.1.2.1 v.1.2.2.1 v.1.2.2.2.1 nx⟩
def f109 (k:Nat)(a1:(List Int)):Option (T0×Unit):=
 oe k k 0 a1 (a1.length:Int) 0
  (λx8:(T0×Unit)=>some ((x8.1.1,()),()),
  λx9:(T0×Unit)=>some ((x9.1.1,()),()),
  ())
def PC :af:=ee 109 [(0,.c (.sl (.int .i64)))] [(0,.c (.int .i64))] λk v=>f109 k v.1.1
def QW (k:Nat):Full:=fl k 18 [] (cuts:=[(3,(CL k))])
theorem Nu (k:Nat):aF (QW k) (CL k) (au Tryz.f109 3):=λρ v nx=>⟨by kernel_rfl,λj=>by kernel_rfl⟩
theorem Yo :SN PC:=so Tryz.func109 QW (λ_ _=>trivial) (λ_ _=>by kernel_rfl) (hob:=λk=>Eq.mpr (by kernel_rfl) (And.intro (Nu k) (trivial)))
end Go.Proofs.YtlkkaielmdlefaaGreatDoor.R
