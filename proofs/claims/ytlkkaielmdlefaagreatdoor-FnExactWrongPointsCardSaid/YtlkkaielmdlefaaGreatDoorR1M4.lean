/- Part 4: Plain twins of functions, with their contracts -/
import Derived.Test.YtlkkaielmdlefaaGreatDoorR1M3
import Derived.Test.YtlkkaielmdlefaaGreatDoorR1M2
import Derived.Deep.Slices
import Derived.ChangeArms
import Derived.WideShapes
import Derived.Below
set_option linter.unusedVariables false
set_option linter.unusedVariables false
namespace Go.Proofs.YtlkkaielmdlefaaGreatDoor.R
open R1
def pg {ρ:Type}(k:Nat):Nat->Int->(List T5)->Int->Int->T6->(List T5)->(((T1×(T18×Unit))->Option ρ)×((T2×Unit)->Option ρ)×Unit)->Option ρ|0,_,_,_,_,_,_,_=>none|j+1,v31,v32,v33,v34,v35,v36,nx=>bif(decide (v34<v33))then(aq v32 v34).bind λx37=>(f90 k x37.1 0 (wr .i64 (v31-1))).bind λx44=>bif(!x44.1.1)then nx.2.1 ((false,()),())else(f90 k x37.2.1 (wr .i64 (x37.1+1)) (wr .i64 (v31-1))).bind λx45=>bif(!x45.1.1)then nx.2.1 ((false,()),())else(f90 k x37.2.2 1 4).bind λx46=>bif(!x46.1.1)then nx.2.1 ((false,()),())else(f63 k v35 v36 x37.1 x37.2.1 x37.2.2).bind λx47=>(f64 k v35 v36 x37.1 x37.2.1 x37.2.2).bind λx48=>(f108 k x47.1.1.1 x47.1.1.2.1 x47.1.1.2.2.1 x47.1.1.2.2.2.1 x47.1.1.2.2.2.2.1 x47.1.1.2.2.2.2.2.1 x48.1.1.1 x48.1.1.2.1 x48.1.1.2.2.1 x48.1.1.2.2.2.1 x48.1.1.2.2.2.2.1 x48.1.1.2.2.2.2.2.1).bind λx49=>bif(decide (x49.1.1<0))then nx.2.1 ((false,()),())else bif(decide (v34>0))then(aq v36 (wr .i64 (v34-1))).bind λx50=>(f93 k x50.1 x37.1).bind λx51=>(aq v36 (wr .i64 (v34-1))).bind λx52=>(f93 k x52.2.1 x37.2.1).bind λx53=>(f109 k ([x51.1.1,x53.1.1])).bind λx54=>bif(decide (x54.1.1≥0))then nx.2.1 ((false,()),())else pg k j v31 v32 v33 (wr .i64 (v34+1)) v35 v36 nx else pg k j v31 v32 v33 (wr .i64 (v34+1)) v35 v36 nx else nx.1 (((),()),((v35,v36,()),()))
def GI (k:Nat):Cut:=⟨⟨[(1,.c (.box 5000000)),(3,.c (.int .i64)),(10,.c (.sl u1)),(11,.c (.int .i64)),(12,.c (.int .i64))],[(5000000,.box 31 k2)],[]⟩,[(.exit 0,⟨[(1,.c (.box 5000000))],[(5000000,.box 31 k2)],[]⟩),(.ret,⟨[(2,.c .bool)],[],[]⟩)],λρ j v nx=>pg k j v.1.2.1 v.1.2.2.1 v.1.2.2.2.1 v.1.2.2.2.2.1 v.2.1.1 v.2.1.2.1 nx⟩
def f59 (k:Nat)(a1:T6)(a2:(List T5)):Option (T2×Unit):=
 (f67 k a1).bind λx28=>
 pg k k x28.1.1 a2 (a2.length:Int) 0 a1 a2
  (λx29:(T1×(T18×Unit))=>some (((decide ((x29.2.1.2.1.length:Int)≤70)),()),()),
  λx30:(T2×Unit)=>some ((x30.1.1,()),()),
  ())
def UO :af:=ee 59 [(0,.agg k2)] [(0,.c .bool)] λk v=>f59 k v.1.1.1 v.1.1.2.1
def VF (k:Nat):Full:=fl k 82 [Ei,wT,IH,II,qa,MR,PC] (cuts:=[(3,(GI k))])
theorem S8 (k:Nat):aF (VF k) (GI k) (au Tryz.f59 3):=λρ v nx=>⟨by kernel_rfl,λj=>by kernel_rfl⟩
theorem abf :SN UO:=so Tryz.func59 VF (λ_ j=>⟨JR.at j,zM.at j,O9.at j,Pa.at j,te.at j,Wz.at j,Yo.at j,trivial⟩) (λ_ _=>by kernel_rfl) (hob:=λk=>Eq.mpr (by kernel_rfl) (And.intro (S8 k) (trivial)))
def f117 (k:Nat)(a1 a2 a3 a4 a5 a6 a7 a8 a9 a10 a11 a12 a13 a14 a15 a16 a17 a18:Int):Option (T0×Unit):=
 (f159 k a7 a8 a9 a10 a11 a12 a1 a2 a3 a4 a5 a6).bind λx5=>
 (f159 k a13 a14 a15 a16 a17 a18 a1 a2 a3 a4 a5 a6).bind λx6=>
 (f160 k x5.1.1.1 x5.1.1.2.1 x5.1.1.2.2.1 x5.1.1.2.2.2.1 x5.1.1.2.2.2.2.1 x5.1.1.2.2.2.2.2.1 x6.1.1.1 x6.1.1.2.1 x6.1.1.2.2.1 x6.1.1.2.2.2.1 x6.1.1.2.2.2.2.1 x6.1.1.2.2.2.2.2.1).bind λx7=>
 (f162 k x7.1.1.1 x7.1.1.2.1 x7.1.1.2.2.1).bind λx8=>
 some ((x8.1.1,()),())
def BY :af:=ee 117 [(0,.agg k1),(1,.agg k1),(2,.agg k1)] [(0,.c (.int .i64))] λk v=>f117 k v.1.1.1 v.1.1.2.1 v.1.1.2.2.1 v.1.1.2.2.2.1 v.1.1.2.2.2.2.1 v.1.1.2.2.2.2.2.1 v.1.2.1.1 v.1.2.1.2.1 v.1.2.1.2.2.1 v.1.2.1.2.2.2.1 v.1.2.1.2.2.2.2.1 v.1.2.1.2.2.2.2.2.1 v.1.2.2.1.1 v.1.2.2.1.2.1 v.1.2.2.1.2.2.1 v.1.2.2.1.2.2.2.1 v.1.2.2.1.2.2.2.2.1 v.1.2.2.1.2.2.2.2.2.1
def W3 (k:Nat):Full:=fl k 15 [B5,B6,uZ]
theorem JF :SN BY:=so Tryz.func117 W3 (λ_ j=>⟨JJ.at j,JK.at j,yA.at j,trivial⟩) (λ_ _=>by kernel_rfl)
def f163 (k:Nat)(a1 a2 a3 a4 a5 a6 a7 a8 a9 a10 a11 a12 a13 a14 a15 a16 a17 a18:Int):Option (T2×Unit):=(f117 k a1 a2 a3 a4 a5 a6 a7 a8 a9 a10 a11 a12 a13 a14 a15 a16 a17 a18).bind λx6=>bif(x6.1.1==0)then(f159 k a13 a14 a15 a16 a17 a18 a1 a2 a3 a4 a5 a6).bind λx7=>(f159 k a13 a14 a15 a16 a17 a18 a7 a8 a9 a10 a11 a12).bind λx8=>(f161 k x7.1.1.1 x7.1.1.2.1 x7.1.1.2.2.1 x7.1.1.2.2.2.1 x7.1.1.2.2.2.2.1 x7.1.1.2.2.2.2.2.1 x8.1.1.1 x8.1.1.2.1 x8.1.1.2.2.1 x8.1.1.2.2.2.1 x8.1.1.2.2.2.2.1 x8.1.1.2.2.2.2.2.1).bind λx9=>(f162 k x9.1.1.1 x9.1.1.2.1 x9.1.1.2.2.1).bind λx10=>some (((decide (x10.1.1≤0)),()),())else some ((false,()),())
def Ip :af:=ee 163 [(0,.agg k1),(1,.agg k1),(2,.agg k1)] [(0,.c .bool)] λk v=>f163 k v.1.1.1 v.1.1.2.1 v.1.1.2.2.1 v.1.1.2.2.2.1 v.1.1.2.2.2.2.1 v.1.1.2.2.2.2.2.1 v.1.2.1.1 v.1.2.1.2.1 v.1.2.1.2.2.1 v.1.2.1.2.2.2.1 v.1.2.1.2.2.2.2.1 v.1.2.1.2.2.2.2.2.1 v.1.2.2.1.1 v.1.2.2.1.2.1 v.1.2.2.1.2.2.1 v.1.2.2.1.2.2.2.1 v.1.2.2.1.2.2.2.2.1 v.1.2.2.1.2.2.2.2.2.1
def Xs (k:Nat):Full:=fl k 23 [BY,B5,uY,uZ]
theorem RY :SN Ip:=so Tryz.func163 Xs (λ_ j=>⟨JF.at j,JJ.at j,yz.at j,yA.at j,trivial⟩) (λ_ _=>by kernel_rfl)
def f164 (k:Nat)(a1 a2 a3 a4 a5 a6 a7 a8 a9 a10 a11 a12 a13 a14 a15 a16 a17 a18 a19 a20 a21 a22 a23 a24:Int):Option (T2×Unit):=(f163 k a1 a2 a3 a4 a5 a6 a7 a8 a9 a10 a11 a12 a13 a14 a15 a16 a17 a18).bind λx17=>bif x17.1.1 then some ((true,()),())else(f163 k a1 a2 a3 a4 a5 a6 a7 a8 a9 a10 a11 a12 a19 a20 a21 a22 a23 a24).bind λx18=>bif x18.1.1 then some ((true,()),())else(f163 k a13 a14 a15 a16 a17 a18 a19 a20 a21 a22 a23 a24 a1 a2 a3 a4 a5 a6).bind λx19=>bif x19.1.1 then some ((true,()),())else(f163 k a13 a14 a15 a16 a17 a18 a19 a20 a21 a22 a23 a24 a7 a8 a9 a10 a11 a12).bind λx20=>bif x20.1.1 then some ((true,()),())else(f117 k a1 a2 a3 a4 a5 a6 a7 a8 a9 a10 a11 a12 a13 a14 a15 a16 a17 a18).bind λx21=>(f117 k a1 a2 a3 a4 a5 a6 a7 a8 a9 a10 a11 a12 a19 a20 a21 a22 a23 a24).bind λx22=>bif(decide ((wr .i64 (x21.1.1*x22.1.1))<0))then(f117 k a13 a14 a15 a16 a17 a18 a19 a20 a21 a22 a23 a24 a1 a2 a3 a4 a5 a6).bind λx23=>(f117 k a13 a14 a15 a16 a17 a18 a19 a20 a21 a22 a23 a24 a7 a8 a9 a10 a11 a12).bind λx24=>some (((decide ((wr .i64 (x23.1.1*x24.1.1))<0)),()),())else some ((false,()),())
def P4 :af:=ee 164 [(0,.agg k1),(1,.agg k1),(2,.agg k1),(3,.agg k1)] [(0,.c .bool)] λk v=>f164 k v.1.1.1 v.1.1.2.1 v.1.1.2.2.1 v.1.1.2.2.2.1 v.1.1.2.2.2.2.1 v.1.1.2.2.2.2.2.1 v.1.2.1.1 v.1.2.1.2.1 v.1.2.1.2.2.1 v.1.2.1.2.2.2.1 v.1.2.1.2.2.2.2.1 v.1.2.1.2.2.2.2.2.1 v.1.2.2.1.1 v.1.2.2.1.2.1 v.1.2.2.1.2.2.1 v.1.2.2.1.2.2.2.1 v.1.2.2.1.2.2.2.2.1 v.1.2.2.1.2.2.2.2.2.1 v.1.2.2.2.1.1 v.1.2.2.2.1.2.1 v.1.2.2.2.1.2.2.1 v.1.2.2.2.1.2.2.2.1 v.1.2.2.2.1.2.2.2.2.1 v.1.2.2.2.1.2.2.2.2.2.1
def Xt (k:Nat):Full:=fl k 53 [Ip,BY]
theorem YR :SN P4:=so Tryz.func164 Xt (λ_ j=>⟨RY.at j,JF.at j,trivial⟩) (λ_ _=>by kernel_rfl)
def f111 (k:Nat)(a1:T6)(a2:(List T5))(a3 a4 a5 a6 a7 a8:Int):Option (T2×Unit):=(f63 k a1 a2 a3 a4 a5).bind λx14=>(f64 k a1 a2 a3 a4 a5).bind λx15=>(f63 k a1 a2 a6 a7 a8).bind λx16=>(f64 k a1 a2 a6 a7 a8).bind λx17=>bif(a3==a6)then(f163 k x14.1.1.1 x14.1.1.2.1 x14.1.1.2.2.1 x14.1.1.2.2.2.1 x14.1.1.2.2.2.2.1 x14.1.1.2.2.2.2.2.1 x15.1.1.1 x15.1.1.2.1 x15.1.1.2.2.1 x15.1.1.2.2.2.1 x15.1.1.2.2.2.2.1 x15.1.1.2.2.2.2.2.1 x17.1.1.1 x17.1.1.2.1 x17.1.1.2.2.1 x17.1.1.2.2.2.1 x17.1.1.2.2.2.2.1 x17.1.1.2.2.2.2.2.1).bind λx18=>bif(!x18.1.1)then(f163 k x16.1.1.1 x16.1.1.2.1 x16.1.1.2.2.1 x16.1.1.2.2.2.1 x16.1.1.2.2.2.2.1 x16.1.1.2.2.2.2.2.1 x17.1.1.1 x17.1.1.2.1 x17.1.1.2.2.1 x17.1.1.2.2.2.1 x17.1.1.2.2.2.2.1 x17.1.1.2.2.2.2.2.1 x15.1.1.1 x15.1.1.2.1 x15.1.1.2.2.1 x15.1.1.2.2.2.1 x15.1.1.2.2.2.2.1 x15.1.1.2.2.2.2.2.1).bind λx19=>some (((!x19.1.1),()),())else some ((false,()),())else bif(a4==a7)then(f163 k x14.1.1.1 x14.1.1.2.1 x14.1.1.2.2.1 x14.1.1.2.2.2.1 x14.1.1.2.2.2.2.1 x14.1.1.2.2.2.2.2.1 x15.1.1.1 x15.1.1.2.1 x15.1.1.2.2.1 x15.1.1.2.2.2.1 x15.1.1.2.2.2.2.1 x15.1.1.2.2.2.2.2.1 x16.1.1.1 x16.1.1.2.1 x16.1.1.2.2.1 x16.1.1.2.2.2.1 x16.1.1.2.2.2.2.1 x16.1.1.2.2.2.2.2.1).bind λx20=>bif(!x20.1.1)then(f163 k x16.1.1.1 x16.1.1.2.1 x16.1.1.2.2.1 x16.1.1.2.2.2.1 x16.1.1.2.2.2.2.1 x16.1.1.2.2.2.2.2.1 x17.1.1.1 x17.1.1.2.1 x17.1.1.2.2.1 x17.1.1.2.2.2.1 x17.1.1.2.2.2.2.1 x17.1.1.2.2.2.2.2.1 x14.1.1.1 x14.1.1.2.1 x14.1.1.2.2.1 x14.1.1.2.2.2.1 x14.1.1.2.2.2.2.1 x14.1.1.2.2.2.2.2.1).bind λx21=>some (((!x21.1.1),()),())else some ((false,()),())else bif(a3==a7)then(f163 k x14.1.1.1 x14.1.1.2.1 x14.1.1.2.2.1 x14.1.1.2.2.2.1 x14.1.1.2.2.2.2.1 x14.1.1.2.2.2.2.2.1 x15.1.1.1 x15.1.1.2.1 x15.1.1.2.2.1 x15.1.1.2.2.2.1 x15.1.1.2.2.2.2.1 x15.1.1.2.2.2.2.2.1 x16.1.1.1 x16.1.1.2.1 x16.1.1.2.2.1 x16.1.1.2.2.2.1 x16.1.1.2.2.2.2.1 x16.1.1.2.2.2.2.2.1).bind λx22=>bif(!x22.1.1)then(f163 k x16.1.1.1 x16.1.1.2.1 x16.1.1.2.2.1 x16.1.1.2.2.2.1 x16.1.1.2.2.2.2.1 x16.1.1.2.2.2.2.2.1 x17.1.1.1 x17.1.1.2.1 x17.1.1.2.2.1 x17.1.1.2.2.2.1 x17.1.1.2.2.2.2.1 x17.1.1.2.2.2.2.2.1 x15.1.1.1 x15.1.1.2.1 x15.1.1.2.2.1 x15.1.1.2.2.2.1 x15.1.1.2.2.2.2.1 x15.1.1.2.2.2.2.2.1).bind λx23=>some (((!x23.1.1),()),())else some ((false,()),())else bif(a4==a6)then(f163 k x14.1.1.1 x14.1.1.2.1 x14.1.1.2.2.1 x14.1.1.2.2.2.1 x14.1.1.2.2.2.2.1 x14.1.1.2.2.2.2.2.1 x15.1.1.1 x15.1.1.2.1 x15.1.1.2.2.1 x15.1.1.2.2.2.1 x15.1.1.2.2.2.2.1 x15.1.1.2.2.2.2.2.1 x17.1.1.1 x17.1.1.2.1 x17.1.1.2.2.1 x17.1.1.2.2.2.1 x17.1.1.2.2.2.2.1 x17.1.1.2.2.2.2.2.1).bind λx24=>bif(!x24.1.1)then(f163 k x16.1.1.1 x16.1.1.2.1 x16.1.1.2.2.1 x16.1.1.2.2.2.1 x16.1.1.2.2.2.2.1 x16.1.1.2.2.2.2.2.1 x17.1.1.1 x17.1.1.2.1 x17.1.1.2.2.1 x17.1.1.2.2.2.1 x17.1.1.2.2.2.2.1 x17.1.1.2.2.2.2.2.1 x14.1.1.1 x14.1.1.2.1 x14.1.1.2.2.1 x14.1.1.2.2.2.1 x14.1.1.2.2.2.2.1 x14.1.1.2.2.2.2.2.1).bind λx25=>some (((!x25.1.1),()),())else some ((false,()),())else(f164 k x14.1.1.1 x14.1.1.2.1 x14.1.1.2.2.1 x14.1.1.2.2.2.1 x14.1.1.2.2.2.2.1 x14.1.1.2.2.2.2.2.1 x15.1.1.1 x15.1.1.2.1 x15.1.1.2.2.1 x15.1.1.2.2.2.1 x15.1.1.2.2.2.2.1 x15.1.1.2.2.2.2.2.1 x16.1.1.1 x16.1.1.2.1 x16.1.1.2.2.1 x16.1.1.2.2.2.1 x16.1.1.2.2.2.2.1 x16.1.1.2.2.2.2.2.1 x17.1.1.1 x17.1.1.2.1 x17.1.1.2.2.1 x17.1.1.2.2.2.1 x17.1.1.2.2.2.2.1 x17.1.1.2.2.2.2.2.1).bind λx26=>some (((!x26.1.1),()),())
def PE :af:=ee 111 [(0,.agg k2),(1,.agg k0),(2,.agg k0)] [(0,.c .bool)] λk v=>f111 k v.1.1.1 v.1.1.2.1 v.1.2.1.1 v.1.2.1.2.1 v.1.2.1.2.2.1 v.1.2.2.1.1 v.1.2.2.1.2.1 v.1.2.2.1.2.2.1
def W0 (k:Nat):Full:=fl k 101 [IH,II,Ip,P4] (touch:=[(1,[(16,[7]),(17,[8]),(18,[9]),(19,[10])])])
theorem Yq :SN PE:=so Tryz.func111 W0 (λ_ j=>⟨O9.at j,Pa.at j,RY.at j,YR.at j,trivial⟩) (λ_ _=>by kernel_rfl)
def f110 (k:Nat)(a1 a2 a3:Int)(a4:T7)(a5:T5):Option (T2×Unit):=
 (f111 k a4.1 a4.2 a5.1 a5.2.1 a5.2.2 a1 a2 a3).bind λx2=>
 some (((!x2.1.1),()),())
def PD :af:=ee 110 [(0,.agg k0),(1,.c (.dp u5)),(2,.c (.dp u1))] [(0,.c .bool)] λk v=>f110 k v.1.1.1 v.1.1.2.1 v.1.1.2.2.1 v.1.2.1 v.1.2.2.1
def WZ (k:Nat):Full:=fl k 10 [PE]
theorem Yp :SN PD:=so Tryz.func110 WZ (λ_ j=>⟨Yq.at j,trivial⟩) (λ_ _=>by kernel_rfl)
def ou {ρ:Type}(k:Nat):Nat->(List T5)->T7->T5->Int->Int->((T1->Option ρ)×((T0×Unit)->Option ρ)×Unit)->Option ρ|0,_,_,_,_,_,_=>none|j+1,v12,v13,v14,v15,v16,nx=>bif(decide (v16<v15))then(aq v12 v16).bind λx17=>(f110 k x17.1 x17.2.1 x17.2.2 v13 v14).bind λx18=>bif x18.1.1 then nx.2.1 ((v16,()),())else ou k j v12 v13 v14 v15 (wr .i64 (v16+1)) nx else nx.1 ((),())
def C7 (k:Nat):Cut:=⟨⟨[(0,.c (.sl u1)),(1,.c (.cap (.cap (.lit (.fn 110)) (.dp u5)) (.dp u1))),(7,.c (.int .i64)),(8,.c (.int .i64))],[],[]⟩,[(.exit 0,⟨[],[],[]⟩),(.ret,⟨[(4,.c (.int .i64))],[],[]⟩)],λρ j v nx=>ou k j v.1.1 v.1.2.1.1.2 v.1.2.1.2 v.1.2.2.1 v.1.2.2.2.1 nx⟩
def f145 (k:Nat)(a1:(List T5))(a2:T7)(a3:T5):Option (T0×Unit):=
 ou k k a1 a2 a3 (a1.length:Int) 0
  (λx10:T1=>some (((-1),()),()),
  λx11:(T0×Unit)=>some ((x11.1.1,()),()),
  ())
def PT :af:=ee 145 [(0,.c (.sl u1)),(1,.c (.cap (.cap (.lit (.fn 110)) (.dp u5)) (.dp u1)))] [(0,.c (.int .i64))] λk v=>f145 k v.1.1 v.1.2.1.1.2 v.1.2.1.2
def Ra (k:Nat):Full:=fl k 19 [PD] (cuts:=[(2,(C7 k))])
theorem NN (k:Nat):aF (Ra k) (C7 k) (au Tryz.f145 2):=λρ v nx=>⟨by kernel_rfl,λj=>by kernel_rfl⟩
theorem YG :SN PT:=so Tryz.func145 Ra (λ_ j=>⟨Yp.at j,trivial⟩) (λ_ _=>by kernel_rfl) (hob:=λk=>Eq.mpr (by kernel_rfl) (And.intro (NN k) (trivial)))
def f95 (k:Nat)(a1:(List T5))(a2:T7)(a3:T5):Option (T2×Unit):=
 (f145 k a1 a2 a3).bind λx2=>
 some (((decide (x2.1.1≥0)),()),())
def Vd :af:=ee 95 [(0,.c (.sl u1)),(1,.c (.cap (.cap (.lit (.fn 110)) (.dp u5)) (.dp u1)))] [(0,.c .bool)] λk v=>f95 k v.1.1 v.1.2.1.1.2 v.1.2.1.2
def aav (k:Nat):Full:=fl k 9 [PT]
theorem abE :SN Vd:=so Tryz.func95 aav (λ_ j=>⟨YG.at j,trivial⟩) (λ_ _=>by kernel_rfl)
def rI {ρ:Type}(k:Nat):Nat->(List T5)->Int->Int->T6->(List T5)->((T1->Option ρ)×((T2×Unit)->Option ρ)×Unit)->Option ρ|0,_,_,_,_,_,_=>none|j+1,v12,v13,v14,v15,v16,nx=>bif(decide (v14<v13))then(aq v12 v14).bind λx17=>bif decide (0≤0)&&decide (0≤v14)&&decide (v14≤(v16.length:Int))then(f95 k (sub v16 0 v14) (v15,v16) x17).bind λx18=>bif x18.1.1 then nx.2.1 ((false,()),())else rI k j v12 v13 (wr .i64 (v14+1)) v15 v16 nx else none else nx.1 ((),())
def GJ (k:Nat):Cut:=⟨⟨[(1,.c (.box 5000000)),(6,.c (.sl u1)),(7,.c (.int .i64)),(8,.c (.int .i64))],[(5000000,.box 31 k2)],[]⟩,[(.exit 0,⟨[],[],[]⟩),(.ret,⟨[(2,.c .bool)],[],[]⟩)],λρ j v nx=>rI k j v.1.2.1 v.1.2.2.1 v.1.2.2.2.1 v.2.1.1 v.2.1.2.1 nx⟩
def f60 (k:Nat)(a1:T6)(a2:(List T5)):Option (T2×Unit):=
 rI k k a2 (a2.length:Int) 0 a1 a2
  (λx10:T1=>some ((true,()),()),
  λx11:(T2×Unit)=>some ((x11.1.1,()),()),
  ())
def UP :af:=ee 60 [(0,.agg k2)] [(0,.c .bool)] λk v=>f60 k v.1.1.1 v.1.1.2.1
def VG (k:Nat):Full:=fl k 20 [Vd] (cuts:=[(2,(GJ k))])
theorem S9 (k:Nat):aF (VG k) (GJ k) (au Tryz.f60 2):=λρ v nx=>⟨by kernel_rfl,λj=>by kernel_rfl⟩
theorem abg :SN UP:=so Tryz.func60 VG (λ_ j=>⟨abE.at j,trivial⟩) (λ_ _=>by kernel_rfl) (hob:=λk=>Eq.mpr (by kernel_rfl) (And.intro (S9 k) (trivial)))
def oC {ρ:Type}(k:Nat):Nat->(List Bool)->Bool->Int->Int->((T1->Option ρ)×((T0×Unit)->Option ρ)×Unit)->Option ρ|0,_,_,_,_,_=>none|j+1,v10,v11,v12,v13,nx=>bif(decide (v13<v12))then(aq v10 v13).bind λx14=>bif(v11==x14)then nx.2.1 ((v13,()),())else oC k j v10 v11 v12 (wr .i64 (v13+1)) nx else nx.1 ((),())
def Df (k:Nat):Cut:=⟨⟨[(0,.c (.sl .bool)),(1,.c .bool),(7,.c (.int .i64)),(8,.c (.int .i64))],[],[]⟩,[(.exit 0,⟨[],[],[]⟩),(.ret,⟨[(4,.c (.int .i64))],[],[]⟩)],λρ j v nx=>oC k j v.1.1 v.1.2.1 v.1.2.2.1 v.1.2.2.2.1 nx⟩
def f165 (k:Nat)(a1:(List Bool))(a2:Bool):Option (T0×Unit):=
 oC k k a1 a2 (a1.length:Int) 0
  (λx8:T1=>some (((-1),()),()),
  λx9:(T0×Unit)=>some ((x9.1.1,()),()),
  ())
def P5 :af:=ee 165 [(0,.c (.sl .bool)),(1,.c .bool)] [(0,.c (.int .i64))] λk v=>f165 k v.1.1 v.1.2.1
def Rj (k:Nat):Full:=fl k 19 [] (cuts:=[(2,(Df k))])
theorem NV (k:Nat):aF (Rj k) (Df k) (au Tryz.f165 2):=λρ v nx=>⟨by kernel_rfl,λj=>by kernel_rfl⟩
theorem YS :SN P5:=so Tryz.func165 Rj (λ_ _=>trivial) (λ_ _=>by kernel_rfl) (hob:=λk=>Eq.mpr (by kernel_rfl) (And.intro (NV k) (trivial)))
def f112 (k:Nat)(a1:(List Bool))(a2:Bool):Option (T2×Unit):=
 (f165 k a1 a2).bind λx2=>
 some (((decide (x2.1.1≥0)),()),())
def PF :af:=ee 112 [(0,.c (.sl .bool)),(1,.c .bool)] [(0,.c .bool)] λk v=>f112 k v.1.1 v.1.2.1
def W2 (k:Nat):Full:=fl k 9 [P5]
theorem Yr :SN PF:=so Tryz.func112 W2 (λ_ j=>⟨YS.at j,trivial⟩) (λ_ _=>by kernel_rfl)
def ph {ρ:Type}(k:Nat):Nat->Bool->(List T5)->Int->Int->T6->(List T5)->(List Bool)->(((T22×(T18×(List Bool)×Unit))->Option ρ)×Unit)->Option ρ|0,_,_,_,_,_,_,_,_=>none|j+1,v27,v28,v29,v30,v31,v32,v33,nx=>bif(decide (v30<v29))then(aq v28 v30).bind λx34=>bif decide (0≤x34.1)&&decide (x34.1<(v33.length:Int))then(v33[x34.1.toNat]?).bind λx35=>bif decide (0≤x34.2.1)&&decide (x34.2.1<(v33.length:Int))then(v33[x34.2.1.toNat]?).bind λx36=>bif(!(x35==x36))then bif decide (0≤x34.1)&&decide (x34.1<(v33.length:Int))then(v33[x34.1.toNat]?).bind λ_=>bif decide (0≤x34.2.1)&&decide (x34.2.1<((v33.set x34.1.toNat true).length:Int))then((v33.set x34.1.toNat true)[x34.2.1.toNat]?).bind λ_=>let x39:(List Bool):=((v33.set x34.1.toNat true).set x34.2.1.toNat true);ph k j true v28 v29 (wr .i64 (v30+1)) v31 v32 x39 nx else none else none else ph k j v27 v28 v29 (wr .i64 (v30+1)) v31 v32 v33 nx else none else none else nx.1 (((),(),v27,()),((v31,v32,()),v33,()))
def GL (k:Nat):Cut:=⟨⟨[(1,.c (.box 5000000)),(3,.c (.row 5000001)),(4,.c .bool),(19,.c (.sl u1)),(20,.c (.int .i64)),(21,.c (.int .i64))],[(5000000,.box 31 k2),(5000001,.row 4 .bool)],[]⟩,[(.exit 2,⟨[(1,.c (.box 5000000)),(3,.c (.row 5000001)),(4,.c .bool)],[(5000000,.box 31 k2),(5000001,.row 4 .bool)],[]⟩)],λρ j v nx=>ph k j v.1.2.2.1 v.1.2.2.2.1 v.1.2.2.2.2.1 v.1.2.2.2.2.2.1 v.2.1.1 v.2.1.2.1 v.2.2.1 nx⟩
def jA {ρ:Type}(k:Nat):Nat->Bool->T6->(List T5)->(List Bool)->(((T1×((List Bool)×Unit))->Option ρ)×Unit)->Option ρ|0,_,_,_,_,_=>none|j+1,v40,v41,v42,v43,nx=>bif v40 then ph k k false v42 (v42.length:Int) 0 v41 v42 v43 (λx44:(T22×(T18×(List Bool)×Unit))=>jA k j x44.1.2.2.1 x44.2.1.1 x44.2.1.2.1 x44.2.2.1 nx,())else nx.1 (((),()),(v43,()))
def GK (k:Nat):Cut:=⟨⟨[(1,.c (.box 5000000)),(3,.c (.row 5000001)),(4,.c .bool)],[(5000000,.box 31 k2),(5000001,.row 4 .bool)],[]⟩,[(.exit 0,⟨[(3,.c (.row 5000000))],[(5000000,.row 4 .bool)],[]⟩)],λρ j v nx=>jA k j v.1.2.2.1 v.2.1.1 v.2.1.2.1 v.2.2.1 nx⟩
def f61 (k:Nat)(a1:T6)(a2:(List T5)):Option (T2×Unit):=bif((a1.length:Int)==0)then some ((true,()),())else bif decide ((a1.length:Int)=(a1.length:Int))&&decide (0≤(a1.length:Int))&&decide ((a1.length:Int)*1≤roomy)then let x23:(List Bool):=(List.replicate (a1.length:Int).toNat false);bif decide (0≤0)&&decide (0<(x23.length:Int))then(x23[0]?).bind λ_=>jA k k true a1 a2 (x23.set 0 true) (λx25:(T1×((List Bool)×Unit))=>(f112 k x25.2.1 false).bind λx26=>some (((!x26.1.1),()),()),())else none else none
def UQ :af:=ee 61 [(0,.agg k2)] [(0,.c .bool)] λk v=>f61 k v.1.1.1 v.1.1.2.1
def M1 (k:Nat):Full:=fl k 48 [PF] (cuts:=[(9,(GL k)),(6,(GK k))]) (touch:=[(12,[(7,[5000001]),(9,[5000001])])])
theorem Tb (k:Nat):aF (M1 k) (GL k) (au Tryz.f61 9):=λρ v nx=>⟨by kernel_rfl,λj=>by kernel_rfl⟩
theorem Ta (k:Nat):aF (M1 k) (GK k) (au Tryz.f61 6):=λρ v nx=>⟨by kernel_rfl,λj=>by kernel_rfl⟩
theorem abh :SN UQ:=so Tryz.func61 M1 (λ_ j=>⟨Yr.at j,trivial⟩) (λ_ _=>by kernel_rfl) (hob:=λk=>Eq.mpr (by kernel_rfl) (And.intro (Tb k) (And.intro (Ta k) (trivial))))
def kl {ρ:Type}(k:Nat):Nat->Bool->Int->(List T5)->Int->Int->(List (Int×Option (List Int)))->((((Bool×Int×Unit)×((List (Int×Option (List Int)))×Unit))->Option ρ)×Unit)->Option ρ|0,_,_,_,_,_,_,_=>none|j+1,v54,v55,v56,v57,v58,v59,nx=>bif(decide (v58<v57))then(aq v56 v58).bind λx60=>bif(x60.2.2==1)then(dr (λ(a b:Int)=>a==b) x60.1 v59).bind λx61=>bif decide ((x61.1.length+[x60.2.1].length)*8≤roomy)then bif v54 then none else let x62:(List (Int×Option (List Int))):=(cd (λ(a b:Int)=>a==b) x60.1 (some (x61.1++[x60.2.1])) x61.2);(dr (λ(a b:Int)=>a==b) x60.2.1 x62).bind λx63=>bif decide ((x63.1.length+[x60.1].length)*8≤roomy)then bif v54 then none else let x64:(List (Int×Option (List Int))):=(cd (λ(a b:Int)=>a==b) x60.2.1 (some (x63.1++[x60.1])) x63.2);kl k j v54 (wr .i64 (v55+1)) v56 v57 (wr .i64 (v58+1)) x64 nx else none else none else kl k j v54 v55 v56 v57 (wr .i64 (v58+1)) v59 nx else nx.1 ((v54,v55,()),(v59,()))
def CM (k:Nat):Cut:=⟨⟨[(4,.c (.mapr 5000000)),(5,.c (.int .i64)),(14,.c (.sl u1)),(15,.c (.int .i64)),(16,.c (.int .i64))],[(5000000,.mr 188 false (.int .i64) 2 (.int .i64))],[]⟩,[(.exit 0,⟨[(4,.c (.mapr 5000000)),(5,.c (.int .i64))],[(5000000,.mr 188 false (.int .i64) 2 (.int .i64))],[]⟩)],λρ j v nx=>kl k j v.1.1 v.1.2.1 v.1.2.2.1 v.1.2.2.2.1 v.1.2.2.2.2.1 v.2.1 nx⟩
def im {ρ:Type}(k:Nat):Nat->Bool->Int->Int->Int->(List (Int×(List Int)))->(List Int)->((((Int×Unit×Unit)×T12)->Option ρ)×((T17×Unit)->Option ρ)×Unit)->Option ρ|0,_,_,_,_,_,_,_=>none|j+1,v65,v66,v67,v68,v69,v70,nx=>bif(v68 !=0)then let x73:(Option (List Int)):=(b8 (λ(a b:Int)=>a==b) v68 v69);let x74:Bool:=(((x73.getD ([]:List Int)).length:Int) !=2);bif x74 then nx.2.1 (((),false,()),())else bif(decide ((v70.length:Int)>v66))then nx.2.1 (((),false,()),())else bif decide ((v70.length+[v68].length)*8≤roomy)then let x75:(Option (List Int)):=(b8 (λ(a b:Int)=>a==b) v68 v69);(aq (x75.getD ([]:List Int)) 0).bind λx76=>bif(x76==v67)then let x77:(Option (List Int)):=(b8 (λ(a b:Int)=>a==b) v68 v69);(aq (x77.getD ([]:List Int)) 1).bind λx78=>im k j v65 v66 v68 x78 v69 (v70++[v68]) nx else im k j v65 v66 v68 x76 v69 (v70++[v68]) nx else none else nx.1 ((v66,(),()),(v70,()))
def Ad (k:Nat):Cut:=⟨⟨[(4,.c (.mapr 5000000)),(5,.c (.int .i64)),(8,.c (.row 5000001)),(9,.c (.int .i64)),(10,.c (.int .i64))],[(5000000,.mp 188 false false (.int .i64) (.sl (.int .i64))),(5000001,.row 2 (.int .i64))],[]⟩,[(.exit 2,⟨[(5,.c (.int .i64)),(8,.c (.row 5000000))],[(5000000,.row 2 (.int .i64))],[]⟩),(.ret,⟨[(2,.c (.lit .nils)),(3,.c .bool)],[],[]⟩)],λρ j v nx=>im k j v.1.1 v.1.2.1 v.1.2.2.2.1 v.1.2.2.2.2.1 v.2.1 v.2.2.1 nx⟩
def f113 (k:Nat)(a1:T6)(a2:(List T5)):Option (T17×T12):=kl k k false 0 a2 (a2.length:Int) 0 ([]:List (Int×Option (List Int))) (λx41:((Bool×Int×Unit)×((List (Int×Option (List Int)))×Unit))=>(mO x41.2.1).bind λx45=>let x46:(Option (List Int)):=(b8 (λ(a b:Int)=>a==b) 0 x45);let x47:Bool:=(((x46.getD ([]:List Int)).length:Int) !=2);bif x47 then some (((),false,()),(([]:List Int),()))else let x48:(Option (List Int)):=(b8 (λ(a b:Int)=>a==b) 0 x45);(aq (x48.getD ([]:List Int)) 0).bind λx49=>im k k x41.1.1 x41.1.2.1 0 x49 x45 ([(0:Int)]) (λx52:((Int×Unit×Unit)×T12)=>bif((x52.2.1.length:Int)==x52.1.1)then some (((),(decide (x52.1.1≥3)),()),(x52.2.1,()))else some (((),false,()),(x52.2.1,())),λx53:(T17×Unit)=>some (((),x53.1.2.1,()),(([]:List Int),())),()),())
def H9 :af:=⟨113,⟨[(0,.agg k2)],[],[]⟩,⟨[(0,.c (.row 4000000)),(1,.c .bool)],[(4000000,.row 2 (.int .i64))],[]⟩,λk v=>f113 k v.1.1.1 v.1.1.2.1⟩
def IW (k:Nat):Full:=fl k 98 [] (cuts:=[(4,(CM k)),(15,(Ad k))]) (touch:=[(7,[(6,[5000000]),(10,[29]),(11,[33,5000000])]),(8,[(6,[5000000]),(10,[40]),(11,[44,5000000])])]) (takes:=[12,29,40]) (melts:=[49])
theorem Nv (k:Nat):aF (IW k) (CM k) (au Tryz.f113 4):=λρ v nx=>⟨by kernel_rfl,λj=>by kernel_rfl⟩
theorem K9 (k:Nat):aF (IW k) (Ad k) (au Tryz.f113 15):=λρ v nx=>⟨by kernel_rfl,λj=>by kernel_rfl⟩
theorem RL :SN H9:=so Tryz.func113 IW (λ_ _=>trivial) (λ_ _=>by kernel_rfl) (hob:=λk=>Eq.mpr (by kernel_rfl) (And.intro (Nv k) (And.intro (K9 k) (trivial))))
def og {ρ:Type}(k:Nat):Nat->(List Int)->Int->Int->T6->(List T5)->T6->((T10->Option ρ)×Unit)->Option ρ|0,_,_,_,_,_,_,_=>none|j+1,v18,v19,v20,v21,v22,v23,nx=>bif(decide (v20<v19))then(aq v18 v20).bind λx24=>(aq v21 x24).bind λx25=>bif decide ((v23.length+[x25].length)*48≤roomy)then og k j v18 v19 (wr .i64 (v20+1)) v21 v22 (v23++[x25]) nx else none else nx.1 (((),()),(v23,()))
def CP (k:Nat):Cut:=⟨⟨[(2,.c (.box 5000000)),(5,.c (.row 5000001)),(8,.c (.sl (.int .i64))),(9,.c (.int .i64)),(10,.c (.int .i64))],[(5000000,.box 31 k2),(5000001,.row 71 (.pair u1 u1))],[]⟩,[(.exit 0,⟨[(5,.c (.row 5000000))],[(5000000,.row 71 (.pair u1 u1))],[]⟩)],λρ j v nx=>og k j v.1.2.2.1 v.1.2.2.2.1 v.1.2.2.2.2.1 v.2.1.1 v.2.1.2.1 v.2.2.1 nx⟩
def f116 (k:Nat)(a1:T6)(a2:(List T5))(a3:(List Int)):Option T10:=
 og k k a3 (a3.length:Int) 0 a1 a2 ([]:List (T5×T5))
  (λx17:T10=>some (((),()),(x17.2.1,())),
  ())
def Ib :af:=⟨116,⟨[(0,.agg k2),(1,.c (.sl (.int .i64)))],[],[]⟩,⟨[(0,.c (.row 4000000))],[(4000000,.row 71 (.pair u1 u1))],[]⟩,λk v=>f116 k v.1.1.1 v.1.1.2.1 v.1.2.1⟩
def QZ (k:Nat):Full:=fl k 24 [] (cuts:=[(3,(CP k))])
theorem Ny (k:Nat):aF (QZ k) (CP k) (au Tryz.f116 3):=λρ v nx=>⟨by kernel_rfl,λj=>by kernel_rfl⟩
theorem RN :SN Ib:=so Tryz.func116 QZ (λ_ _=>trivial) (λ_ _=>by kernel_rfl) (hob:=λk=>Eq.mpr (by kernel_rfl) (And.intro (Ny k) (trivial)))
def lO {ρ:Type}(k:Nat):Nat->T6->Int->T6->Int->Int->T6->((T10->Option ρ)×Unit)->Option ρ|0,_,_,_,_,_,_,_=>none|j+1,v26,v27,v28,v29,v30,v31,nx=>bif(decide (v30<v29))then(aq v28 v30).bind λx32=>bif decide (v27=0)then none else let x33:Int:=((wr .i64 ((wr .i64 (v30+v27))-1)).tmod v27);(aq v26 x33).bind λx34=>(f108 k x34.1.1 x34.1.2.1 x34.1.2.2 x34.2.1 x34.2.2.1 x34.2.2.2 x32.1.1 x32.1.2.1 x32.1.2.2 x32.2.1 x32.2.2.1 x32.2.2.2).bind λx35=>bif decide (v27=0)then none else(aq v26 ((wr .i64 (v30+1)).tmod v27)).bind λx36=>(f108 k x32.1.1 x32.1.2.1 x32.1.2.2 x32.2.1 x32.2.2.1 x32.2.2.2 x36.1.1 x36.1.2.1 x36.1.2.2 x36.2.1 x36.2.2.1 x36.2.2.2).bind λx37=>bif(x35.1.1 !=x37.1.1)then bif decide ((v31.length+[x32].length)*48≤roomy)then lO k j v26 v27 v28 v29 (wr .i64 (v30+1)) (v31++[x32]) nx else none else lO k j v26 v27 v28 v29 (wr .i64 (v30+1)) v31 nx else nx.1 (((),()),(v31,()))
def CO (k:Nat):Cut:=⟨⟨[(0,.c (.sl (.pair u1 u1))),(3,.c (.int .i64)),(4,.c (.row 5000000)),(9,.c (.sl (.pair u1 u1))),(10,.c (.int .i64)),(11,.c (.int .i64))],[(5000000,.row 71 (.pair u1 u1))],[]⟩,[(.exit 0,⟨[(4,.c (.row 5000000))],[(5000000,.row 71 (.pair u1 u1))],[]⟩)],λρ j v nx=>lO k j v.1.1 v.1.2.1 v.1.2.2.2.1 v.1.2.2.2.2.1 v.1.2.2.2.2.2.1 v.2.1 nx⟩
def f115 (k:Nat)(a1:T6):Option T10:=
 lO k k a1 (a1.length:Int) a1 (a1.length:Int) 0 ([]:List (T5×T5))
  (λx25:T10=>some (((),()),(x25.2.1,())),
  ())
def Ia :af:=⟨115,⟨[(0,.c (.sl (.pair u1 u1)))],[],[]⟩,⟨[(0,.c (.row 4000000))],[(4000000,.row 71 (.pair u1 u1))],[]⟩,λk v=>f115 k v.1.1⟩
def QY (k:Nat):Full:=fl k 43 [qa] (cuts:=[(4,(CO k))])
theorem Nx (k:Nat):aF (QY k) (CO k) (au Tryz.f115 4):=λρ v nx=>⟨by kernel_rfl,λj=>by kernel_rfl⟩
theorem RM :SN Ia:=so Tryz.func115 QY (λ_ j=>⟨te.at j,trivial⟩) (λ_ _=>by kernel_rfl) (hob:=λk=>Eq.mpr (by kernel_rfl) (And.intro (Nx k) (trivial)))
def f212 (k:Nat)(a1 a2 a3 a4 a5 a6:Int):Option (T2×Unit):=
 (f106 k a1 a2 a3 a4 a5 a6).bind λx2=>
 some (((!x2.1.1),()),())
def Qw :af:=ee 212 [(0,.agg k1)] [(0,.c .bool)] λk v=>f212 k v.1.1.1 v.1.1.2.1 v.1.1.2.2.1 v.1.1.2.2.2.1 v.1.1.2.2.2.2.1 v.1.1.2.2.2.2.2.1
def XW (k:Nat):Full:=fl k 6 [H7]
theorem Zk :SN Qw:=so Tryz.func212 XW (λ_ j=>⟨RJ.at j,trivial⟩) (λ_ _=>by kernel_rfl)
def oQ {ρ:Type}(k:Nat):Nat->T6->Int->Int->((T1->Option ρ)×((T0×Unit)->Option ρ)×Unit)->Option ρ|0,_,_,_,_=>none|j+1,v10,v11,v12,nx=>bif(decide (v12<v11))then(aq v10 v12).bind λx13=>(f212 k x13.1.1 x13.1.2.1 x13.1.2.2 x13.2.1 x13.2.2.1 x13.2.2.2).bind λx14=>bif x14.1.1 then nx.2.1 ((v12,()),())else oQ k j v10 v11 (wr .i64 (v12+1)) nx else nx.1 ((),())
def DN (k:Nat):Cut:=⟨⟨[(0,.c (.sl (.pair u1 u1))),(1,.c (.lit (.fn 212))),(7,.c (.int .i64)),(8,.c (.int .i64))],[],[]⟩,[(.exit 0,⟨[],[],[]⟩),(.ret,⟨[(4,.c (.int .i64))],[],[]⟩)],λρ j v nx=>oQ k j v.1.1 v.1.2.2.1 v.1.2.2.2.1 nx⟩
def f235 (k:Nat)(a1:T6):Option (T0×Unit):=
 oQ k k a1 (a1.length:Int) 0
  (λx8:T1=>some (((-1),()),()),
  λx9:(T0×Unit)=>some ((x9.1.1,()),()),
  ())
def QN :af:=ee 235 [(0,.c (.sl (.pair u1 u1))),(1,.c (.lit (.fn 212)))] [(0,.c (.int .i64))] λk v=>f235 k v.1.1
def Rv (k:Nat):Full:=fl k 19 [Qw] (cuts:=[(2,(DN k))])
theorem Ow (k:Nat):aF (Rv k) (DN k) (au Tryz.f235 2):=λρ v nx=>⟨by kernel_rfl,λj=>by kernel_rfl⟩
theorem ZB :SN QN:=so Tryz.func235 Rv (λ_ j=>⟨Zk.at j,trivial⟩) (λ_ _=>by kernel_rfl) (hob:=λk=>Eq.mpr (by kernel_rfl) (And.intro (Ow k) (trivial)))
def f211 (k:Nat)(a1:T6):Option (T2×Unit):=
 (f235 k a1).bind λx2=>
 some (((decide (x2.1.1≥0)),()),())
def Qv :af:=ee 211 [(0,.c (.sl (.pair u1 u1))),(1,.c (.lit (.fn 212)))] [(0,.c .bool)] λk v=>f211 k v.1.1
def XV (k:Nat):Full:=fl k 9 [QN]
theorem Zj :SN Qv:=so Tryz.func211 XV (λ_ j=>⟨ZB.at j,trivial⟩) (λ_ _=>by kernel_rfl)
def f166 (k:Nat)(a1:T6):Option (T2×Unit):=
 (f211 k a1).bind λx2=>
 some (((!x2.1.1),()),())
def Iq :af:=ee 166 [(0,.c (.sl (.pair u1 u1)))] [(0,.c .bool)] λk v=>f166 k v.1.1
def Xu (k:Nat):Full:=fl k 6 [Qv]
theorem RZ :SN Iq:=so Tryz.func166 Xu (λ_ j=>⟨Zj.at j,trivial⟩) (λ_ _=>by kernel_rfl)
def f167 (k:Nat)(a1:T6):Option T10:=bif decide ((([]:List (T5×T5)).length+a1.length)*48≤roomy)then let x2:T6:=(([]:List (T5×T5))++a1);some (((),()),(x2,()))else none
def WR :af:=⟨167,⟨[(0,.c (.slx (.pair u1 u1)))],[],[]⟩,⟨[(0,.c (.row 4000000))],[(4000000,.row 71 (.pair u1 u1))],[]⟩,λk v=>f167 k v.1.1⟩
def Xv (k:Nat):Full:=fl k 8 []
theorem YT :SN WR:=so Tryz.func167 Xv (λ_ _=>trivial) (λ_ _=>by kernel_rfl)
def IS (k:Nat):Option T10:=
 some (((),()),(([]:List (T5×T5)),()))
def Uj :af:=⟨167,⟨[(0,.c (.lit .nils))],[],[]⟩,⟨[(0,.c (.row 4000000))],[(4000000,.row 71 (.pair u1 u1))],[]⟩,λk v=>IS k⟩
def Vk (k:Nat):Full:=fl k 8 []
theorem Wl :SN Uj:=so Tryz.func167 Vk (λ_ _=>trivial) (λ_ _=>by kernel_rfl)
def KF :af:=⟨167,⟨[(0,.c (.sl (.pair u1 u1)))],[],[]⟩,⟨[(0,.c (.row 4000000))],[(4000000,.row 71 (.pair u1 u1))],[]⟩,λk v=>f167 k v.1.1⟩
theorem V0 (k:Nat):IS k=f167 k []:=by kernel_rfl
theorem Wm :kP Tryz.prog aB KF:=L2 (aB:=aB) (id:=167) (u:=(.pair u1 u1)) (res:=⟨[(0,.c (.row 4000000))],[(4000000,.row 71 (.pair u1 u1))],[]⟩) (fN:=λk v=>IS k) (fX:=λk v=>f167 k v.1.1) (fS:=λk v=>f167 k v.1.1) Wl YT λk l o(h:f167 k l=some o)=>⟨h,λe=>(V0 k).trans ((congrArg (f167 k) e).symm.trans h)⟩
def oD {ρ:Type}(k:Nat):Nat->Int->Int->T6->(((Unit×(T6×Unit))->Option ρ)×Unit)->Option ρ|0,_,_,_,_=>none|j+1,v10,v11,v12,nx=>bif(decide (v10<v11))then bif decide (0≤v11)&&decide (v11<(v12.length:Int))then(v12[v11.toNat]?).bind λx13=>bif decide (0≤v10)&&decide (v10<(v12.length:Int))then(v12[v10.toNat]?).bind λx14=>bif decide (0≤v10)&&decide (v10<(v12.length:Int))then(v12[v10.toNat]?).bind λ_=>bif decide (0≤v11)&&decide (v11<((v12.set v10.toNat x13).length:Int))then((v12.set v10.toNat x13)[v11.toNat]?).bind λ_=>oD k j (wr .i64 (v10+1)) (wr .i64 (v11-1)) ((v12.set v10.toNat x13).set v11.toNat x14) nx else none else none else none else none else nx.1 ((),(v12,()))
def Dg (k:Nat):Cut:=⟨⟨[(0,.c (.lit (.row 3000000))),(2,.c (.int .i64)),(3,.c (.int .i64))],[(3000000,.row 71 (.pair u1 u1))],[(3000000,some 3000000)]⟩,[(.exit 0,⟨[],[(3000000,.row 71 (.pair u1 u1))],[(3000000,some 3000000)]⟩)],λρ j v nx=>oD k j v.1.2.1 v.1.2.2.1 v.2.1 nx⟩
def f168 (k:Nat)(a1:T6):Option (Unit×(T6×Unit)):=
 oD k k 0 (wr .i64 ((a1.length:Int)-1)) a1
  (λx9:(Unit×(T6×Unit))=>some ((),(x9.2.1,())),
  ())
def P6 :af:=⟨168,⟨[(0,.c (.row 3000000))],[(3000000,.row 71 (.pair u1 u1))],[]⟩,⟨[],[(3000000,.row 71 (.pair u1 u1))],[(3000000,some 3000000)]⟩,λk v=>f168 k v.2.1⟩
def Rk (k:Nat):Full:=fl k 28 [] (cuts:=[(1,(Dg k))]) (touch:=[(3,[(13,[3000000]),(15,[3000000])])])
theorem NW (k:Nat):aF (Rk k) (Dg k) (au Tryz.f168 1):=λρ v nx=>⟨by kernel_rfl,λj=>by kernel_rfl⟩
theorem YU :SN P6:=so Tryz.func168 Rk (λ_ _=>trivial) (λ_ _=>by kernel_rfl) (hob:=λk=>Eq.mpr (by kernel_rfl) (And.intro (NW k) (trivial)))
def iG {ρ:Type}(k:Nat):Nat->T6->Int->T6->Int->Int->(((T0×Unit)->Option ρ)×Unit)->Option ρ|0,_,_,_,_,_,_=>none|j+1,v11,v12,v13,v14,v15,nx=>bif(decide (v15<v14))then(aq v13 v15).bind λx16=>(aq v11 v12).bind λx17=>(f107 k x16.1.1 x16.1.2.1 x16.1.2.2 x16.2.1 x16.2.2.1 x16.2.2.2 x17.1.1 x17.1.2.1 x17.1.2.2 x17.2.1 x17.2.2.1 x17.2.2.2).bind λx18=>bif(decide (x18.1.1<0))then iG k j v11 v15 v13 v14 (wr .i64 (v15+1)) nx else iG k j v11 v12 v13 v14 (wr .i64 (v15+1)) nx else nx.1 ((v12,()),())
def DE (k:Nat):Cut:=⟨⟨[(0,.c (.sl (.pair u1 u1))),(3,.c (.int .i64)),(6,.c (.sl (.pair u1 u1))),(7,.c (.int .i64)),(8,.c (.int .i64))],[],[]⟩,[(.exit 0,⟨[(3,.c (.int .i64))],[],[]⟩)],λρ j v nx=>iG k j v.1.1 v.1.2.1 v.1.2.2.1 v.1.2.2.2.1 v.1.2.2.2.2.1 nx⟩
def f213 (k:Nat)(a1:T6):Option (T0×Unit):=
 iG k k a1 0 a1 (a1.length:Int) 0
  (λx10:(T0×Unit)=>some ((x10.1.1,()),()),
  ())
def Iz :af:=ee 213 [(0,.c (.sl (.pair u1 u1)))] [(0,.c (.int .i64))] λk v=>f213 k v.1.1
def Rs (k:Nat):Full:=fl k 23 [H8] (cuts:=[(3,(DE k))])
theorem Oj (k:Nat):aF (Rs k) (DE k) (au Tryz.f213 3):=λρ v nx=>⟨by kernel_rfl,λj=>by kernel_rfl⟩
theorem R9 :SN Iz:=so Tryz.func213 Rs (λ_ j=>⟨RK.at j,trivial⟩) (λ_ _=>by kernel_rfl) (hob:=λk=>Eq.mpr (by kernel_rfl) (And.intro (Oj k) (trivial)))
def f236 (k:Nat)(a1:Int):Option T10:=bif(decide (a1<0))then none else let x3:Bool:=(decide ((wr .i64 (a1-(wr .i64 (0-0))))>0));bif x3 then bif decide (0≤(wr .i64 (a1-(wr .i64 (0-0)))))&&decide ((wr .i64 (a1-(wr .i64 (0-0))))*48≤roomy)then let x4:T6:=(List.replicate (wr .i64 (a1-(wr .i64 (0-0)))).toNat ((0,(0,0)),(0,(0,0))));bif decide (0≤0)&&decide (0≤(x4.length:Int))then some (((),()),((x4.take 0),()))else none else none else some (((),()),(([]:List (T5×T5)),()))
def QO :af:=⟨236,⟨[(0,.c (.lit .nils)),(1,.c (.int .i64))],[],[]⟩,⟨[(0,.c (.row 4000000))],[(4000000,.row 71 (.pair u1 u1))],[]⟩,λk v=>f236 k v.1.2.1⟩
def Ye (k:Nat):Full:=fl k 27 [] (trunc:=[25])
theorem ZC :SN QO:=so Tryz.func236 Ye (λ_ _=>trivial) (λ_ _=>by kernel_rfl)
def oL {ρ:Type}(k:Nat):Nat->(List T6)->Int->(List T6)->Int->Int->(((((List T6)×Int×Unit)×Unit)->Option ρ)×Unit)->Option ρ|0,_,_,_,_,_,_=>none|j+1,v21,v22,v23,v24,v25,nx=>bif(decide (v25<v24))then(aq v23 v25).bind λx26=>let x27:Bool:=(decide ((wr .i64 (v22+(x26.length:Int)))<0));bif x27 then none else oL k j v21 (wr .i64 (v22+(x26.length:Int))) v23 v24 (wr .i64 (v25+1)) nx else nx.1 ((v21,v22,()),())
def DF (k:Nat):Cut:=⟨⟨[(0,.c (.sl (.sl (.pair u1 u1)))),(3,.c (.int .i64)),(9,.c (.sl (.sl (.pair u1 u1)))),(10,.c (.int .i64)),(11,.c (.int .i64))],[],[]⟩,[(.exit 0,⟨[(0,.c (.sl (.sl (.pair u1 u1)))),(3,.c (.int .i64))],[],[]⟩)],λρ j v nx=>oL k j v.1.1 v.1.2.1 v.1.2.2.1 v.1.2.2.2.1 v.1.2.2.2.2.1 nx⟩
def mu {ρ:Type}(k:Nat):Nat->(List T6)->Int->Int->T6->((T10->Option ρ)×Unit)->Option ρ|0,_,_,_,_,_=>none|j+1,v28,v29,v30,v31,nx=>bif(decide (v30<v29))then(aq v28 v30).bind λx32=>bif decide ((v31.length+x32.length)*48≤roomy)then mu k j v28 v29 (wr .i64 (v30+1)) (v31++x32) nx else none else nx.1 (((),()),(v31,()))
def Av (k:Nat):Cut:=⟨⟨[(6,.c (.row 5000000)),(25,.c (.sl (.sl (.pair u1 u1)))),(26,.c (.int .i64)),(27,.c (.int .i64))],[(5000000,.row 71 (.pair u1 u1))],[]⟩,[(.exit 2,⟨[(6,.c (.row 5000000))],[(5000000,.row 71 (.pair u1 u1))],[]⟩)],λρ j v nx=>mu k j v.1.2.1 v.1.2.2.1 v.1.2.2.2.1 v.2.1 nx⟩
def f214 (k:Nat)(a1:(List T6)):Option T10:=
 oL k k a1 0 a1 (a1.length:Int) 0
  (λx18:(((List T6)×Int×Unit)×Unit)=>
   (f236 k x18.1.2.1).bind λx19=>
   mu k k x18.1.1 (x18.1.1.length:Int) 0 x19.2.1
    (λx20:T10=>some (((),()),(x20.2.1,())),
    ()),
  ())
def Qx :af:=⟨214,⟨[(0,.c (.sl (.sl (.pair u1 u1))))],[],[]⟩,⟨[(0,.c (.row 4000000))],[(4000000,.row 71 (.pair u1 u1))],[]⟩,λk v=>f214 k v.1.1⟩
def I5 (k:Nat):Full:=fl k 36 [QO] (cuts:=[(3,(DF k)),(11,(Av k))])
theorem Ol (k:Nat):aF (I5 k) (DF k) (au Tryz.f214 3):=λρ v nx=>⟨by kernel_rfl,λj=>by kernel_rfl⟩
theorem Lt (k:Nat):aF (I5 k) (Av k) (au Tryz.f214 11):=λρ v nx=>⟨by kernel_rfl,λj=>by kernel_rfl⟩
theorem Zl :SN Qx:=so Tryz.func214 I5 (λ_ j=>⟨ZC.at j,trivial⟩) (λ_ _=>by kernel_rfl) (hob:=λk=>Eq.mpr (by kernel_rfl) (And.intro (Ol k) (And.intro (Lt k) (trivial))))
def f169 (k:Nat)(a1:T6):Option T10:=bif((a1.length:Int)==0)then some (((),()),(([]:List (T5×T5)),()))else(f213 k a1).bind λx3=>bif decide (0≤x3.1.1)&&decide (x3.1.1≤(a1.length:Int))&&decide ((a1.length:Int)≤(a1.length:Int))then bif decide (0≤0)&&decide (0≤x3.1.1)&&decide (x3.1.1≤(a1.length:Int))then(f214 k ([(sub a1 x3.1.1 (a1.length:Int)),(sub a1 0 x3.1.1)])).bind λx4=>some (((),()),(x4.2.1,()))else none else none
def B7 :af:=⟨169,⟨[(0,.c (.sl (.pair u1 u1)))],[],[]⟩,⟨[(0,.c (.row 4000000))],[(4000000,.row 71 (.pair u1 u1))],[]⟩,λk v=>f169 k v.1.1⟩
def Xw (k:Nat):Full:=fl k 17 [Iz,Qx]
theorem JL :SN B7:=so Tryz.func169 Xw (λ_ j=>⟨R9.at j,Zl.at j,trivial⟩) (λ_ _=>by kernel_rfl)
def f231 (k:Nat)(a1:Int):Option (T0×Unit):=
 some (((fc .i64 a1 15),()),())
def QK :af:=ee 231 [(0,.c (.int .i64))] [(0,.c (.int .i64))] λk v=>f231 k v.1.1
def Yb (k:Nat):Full:=fl k 5 []
theorem Zy :SN QK:=so Tryz.func231 Yb (λ_ _=>trivial) (λ_ _=>by kernel_rfl)
def mq {ρ:Type}(k:Nat):Nat->T6->Int->Int->Int->T6->Int->Int->(((T0×Unit)->Option ρ)×((T2×Unit)->Option ρ)×Unit)->Option ρ|0,_,_,_,_,_,_,_,_=>none|j+1,v23,v24,v25,v26,v27,v28,v29,nx=>bif(decide (v29<v28))then(aq v27 v29).bind λx30=>bif decide (v24=0)then none else(aq v23 ((wr .i64 (v29+1)).tmod v24)).bind λx31=>(f108 k x30.1.1 x30.1.2.1 x30.1.2.2 x30.2.1 x30.2.2.1 x30.2.2.2 x31.1.1 x31.1.2.1 x31.1.2.2 x31.2.1 x31.2.2.1 x31.2.2.2).bind λx32=>(f231 k (wr .i64 (x32.1.1-v26))).bind λx33=>bif(decide (x32.1.1<0))then nx.2.1 ((false,()),())else bif(decide (v26<0))then nx.2.1 ((false,()),())else(f90 k x33.1.1 1 7).bind λx34=>bif(!x34.1.1)then nx.2.1 ((false,()),())else mq k j v23 v24 (wr .i64 (v25+x33.1.1)) x32.1.1 v27 v28 (wr .i64 (v29+1)) nx else nx.1 ((v25,()),())
def DB (k:Nat):Cut:=⟨⟨[(0,.c (.sl (.pair u1 u1))),(3,.c (.int .i64)),(4,.c (.int .i64)),(5,.c (.int .i64)),(23,.c (.sl (.pair u1 u1))),(24,.c (.int .i64)),(25,.c (.int .i64))],[],[]⟩,[(.exit 0,⟨[(4,.c (.int .i64))],[],[]⟩),(.ret,⟨[(2,.c .bool)],[],[]⟩)],λρ j v nx=>mq k j v.1.1 v.1.2.1 v.1.2.2.1 v.1.2.2.2.1 v.1.2.2.2.2.1 v.1.2.2.2.2.2.1 v.1.2.2.2.2.2.2.1 nx⟩
def f203 (k:Nat)(a1:T6):Option (T2×Unit):=bif(decide ((a1.length:Int)<3))then some ((false,()),())else(aq a1 (wr .i64 ((a1.length:Int)-1))).bind λx18=>(aq a1 0).bind λx19=>(f108 k x18.1.1 x18.1.2.1 x18.1.2.2 x18.2.1 x18.2.2.1 x18.2.2.2 x19.1.1 x19.1.2.1 x19.1.2.2 x19.2.1 x19.2.2.1 x19.2.2.2).bind λx20=>mq k k a1 (a1.length:Int) 0 x20.1.1 a1 (a1.length:Int) 0 (λx21:(T0×Unit)=>some (((x21.1.1==16),()),()),λx22:(T2×Unit)=>some ((x22.1.1,()),()),())
def Ix :af:=ee 203 [(0,.c (.sl (.pair u1 u1)))] [(0,.c .bool)] λk v=>f203 k v.1.1
def Rq (k:Nat):Full:=fl k 61 [qa,QK,wT] (cuts:=[(7,(DB k))])
theorem Og (k:Nat):aF (Rq k) (DB k) (au Tryz.f203 7):=λρ v nx=>⟨by kernel_rfl,λj=>by kernel_rfl⟩
theorem R7 :SN Ix:=so Tryz.func203 Rq (λ_ j=>⟨te.at j,Zy.at j,zM.at j,trivial⟩) (λ_ _=>by kernel_rfl) (hob:=λk=>Eq.mpr (by kernel_rfl) (And.intro (Og k) (trivial)))
def f170 (k:Nat)(a1:T6):Option (T2×Unit):=(f67 k a1).bind λx6=>(f90 k x6.1.1 3 16).bind λx7=>bif x7.1.1 then(f166 k a1).bind λx8=>bif x8.1.1 then(f203 k a1).bind λx9=>bif x9.1.1 then(f213 k a1).bind λx10=>some (((x10.1.1==0),()),())else some ((false,()),())else some ((false,()),())else some ((false,()),())
def P7 :af:=ee 170 [(0,.c (.sl (.pair u1 u1)))] [(0,.c .bool)] λk v=>f170 k v.1.1
def Xx (k:Nat):Full:=fl k 19 [Ei,wT,Iq,Ix,Iz]
theorem YV :SN P7:=so Tryz.func170 Xx (λ_ j=>⟨JR.at j,zM.at j,RZ.at j,R7.at j,R9.at j,trivial⟩) (λ_ _=>by kernel_rfl)
def lN {ρ:Type}(k:Nat):Nat->Int->Int->(List T6)->((T1->Option ρ)×((T17×(T6×Unit))->Option ρ)×Unit)->Option ρ|0,_,_,_,_=>none|j+1,v19,v20,v21,nx=>bif(decide (v20<v19))then bif decide (0≤v20)&&decide (v20<(v21.length:Int))then(v21[v20.toNat]?).bind λx22=>(f169 k x22).bind λx23=>(f170 k x23.2.1).bind λx24=>bif x24.1.1 then nx.2.1 (((),true,()),(x23.2.1,()))else lN k j v19 (wr .i64 (v20+1)) v21 nx else none else nx.1 ((),())
def CN (k:Nat):Cut:=⟨⟨[(22,.c (.row 5000000)),(23,.c (.int .i64)),(24,.c (.int .i64))],[(5000000,.row 28 (.sl (.pair u1 u1)))],[]⟩,[(.exit 0,⟨[],[],[]⟩),(.ret,⟨[(2,.c (.row 5000000)),(3,.c .bool)],[(5000000,.row 71 (.pair u1 u1))],[]⟩)],λρ j v nx=>lN k j v.1.2.1 v.1.2.2.1 v.2.1 nx⟩
def f114 (k:Nat)(a1:T6):Option (T17×(T6×Unit)):=(f166 k a1).bind λx14=>bif(!x14.1.1)then some (((),false,()),(([]:List (T5×T5)),()))else bif(decide ((a1.length:Int)>16))then some (((),false,()),(([]:List (T5×T5)),()))else(f167 k a1).bind λx15=>(f168 k x15.2.1).bind λx16=>lN k k ([a1,x16.2.1].length:Int) 0 ([a1,x16.2.1]) (λx17:T1=>some (((),false,()),(([]:List (T5×T5)),())),λx18:(T17×(T6×Unit))=>some (((),x18.1.2.1,()),(x18.2.1,())),())
def PG :af:=⟨114,⟨[(0,.c (.sl (.pair u1 u1)))],[],[]⟩,⟨[(0,.c (.row 4000000)),(1,.c .bool)],[(4000000,.row 71 (.pair u1 u1))],[]⟩,λk v=>f114 k v.1.1⟩
def QX (k:Nat):Full:=fl k 34 [Iq,KF,P6,B7,P7] (cuts:=[(6,(CN k))])
theorem Nw (k:Nat):aF (QX k) (CN k) (au Tryz.f114 6):=λρ v nx=>⟨by kernel_rfl,λj=>by kernel_rfl⟩
theorem Ys :SN PG:=so Tryz.func114 QX (λ_ j=>⟨RZ.at j,Wm.at j,YU.at j,JL.at j,YV.at j,trivial⟩) (λ_ _=>by kernel_rfl) (hob:=λk=>Eq.mpr (by kernel_rfl) (And.intro (Nw k) (trivial)))
def f62 (k:Nat)(a1:T6)(a2:(List T5)):Option (T17×(T6×Unit)):=(f113 k a1 a2).bind λx5=>bif(!x5.1.2.1)then some (((),false,()),(([]:List (T5×T5)),()))else(f116 k a1 a2 x5.2.1).bind λx6=>(f115 k x6.2.1).bind λx7=>(f114 k x7.2.1).bind λx8=>some (((),x8.1.2.1,()),(x8.2.1,()))
def UR :af:=⟨62,⟨[(0,.agg k2)],[],[]⟩,⟨[(0,.c (.row 4000000)),(1,.c .bool)],[(4000000,.row 71 (.pair u1 u1))],[]⟩,λk v=>f62 k v.1.1.1 v.1.1.2.1⟩
def aae (k:Nat):Full:=fl k 20 [H9,Ib,Ia,PG]
theorem abi :SN UR:=so Tryz.func62 aae (λ_ j=>⟨RL.at j,RN.at j,RM.at j,Ys.at j,trivial⟩) (λ_ _=>by kernel_rfl)
def rJ {ρ:Type}(k:Nat):Nat->T6->Int->T6->Int->Int->Int->Int->Int->Int->Int->Int->(((T0×Unit)->Option ρ)×Unit)->Option ρ|0,_,_,_,_,_,_,_,_,_,_,_,_=>none|j+1,v18,v19,v20,v21,v22,v23,v24,v25,v26,v27,v28,nx=>bif(decide (v22<v21))then(aq v20 v22).bind λx29=>bif decide ((v18.length:Int)=0)then none else let x30:Int:=((wr .i64 (v22+1)).tmod (v18.length:Int));(aq v18 x30).bind λx31=>(f117 k x29.1.1 x29.1.2.1 x29.1.2.2 x29.2.1 x29.2.2.1 x29.2.2.2 x31.1.1 x31.1.2.1 x31.1.2.2 x31.2.1 x31.2.2.1 x31.2.2.2 v23 v24 v25 v26 v27 v28).bind λx32=>let x33:Int:=(bif decide (x32.1.1<v19)then x32.1.1 else v19);rJ k j v18 x33 v20 v21 (wr .i64 (v22+1)) v23 v24 v25 v26 v27 v28 nx else nx.1 ((v19,()),())
def GM (k:Nat):Cut:=⟨⟨[(0,.c (.sl (.pair u1 u1))),(3,.c (.box 5000000)),(5,.c (.int .i64)),(8,.c (.sl (.pair u1 u1))),(9,.c (.int .i64)),(10,.c (.int .i64))],[(5000000,.box 71 k1)],[]⟩,[(.exit 0,⟨[(5,.c (.int .i64))],[],[]⟩)],λρ j v nx=>rJ k j v.1.1 v.1.2.2.1 v.1.2.2.2.1 v.1.2.2.2.2.1 v.1.2.2.2.2.2.1 v.2.1.1 v.2.1.2.1 v.2.1.2.2.1 v.2.1.2.2.2.1 v.2.1.2.2.2.2.1 v.2.1.2.2.2.2.2.1 nx⟩
def f65 (k:Nat)(a1:T6)(a2 a3 a4 a5 a6 a7:Int):Option (T0×Unit):=
 rJ k k a1 1 a1 (a1.length:Int) 0 a2 a3 a4 a5 a6 a7
  (λx17:(T0×Unit)=>some ((x17.1.1,()),()),
  ())
def US :af:=ee 65 [(0,.c (.sl (.pair u1 u1))),(1,.agg k1)] [(0,.c (.int .i64))] λk v=>f65 k v.1.1 v.1.2.1.1 v.1.2.1.2.1 v.1.2.1.2.2.1 v.1.2.1.2.2.2.1 v.1.2.1.2.2.2.2.1 v.1.2.1.2.2.2.2.2.1
def VH (k:Nat):Full:=fl k 30 [BY] (cuts:=[(3,(GM k))])
theorem Tc (k:Nat):aF (VH k) (GM k) (au Tryz.f65 3):=λρ v nx=>⟨by kernel_rfl,λj=>by kernel_rfl⟩
theorem abj :SN US:=so Tryz.func65 VH (λ_ j=>⟨JF.at j,trivial⟩) (λ_ _=>by kernel_rfl) (hob:=λk=>Eq.mpr (by kernel_rfl) (And.intro (Tc k) (trivial)))
def f173 (k:Nat)(a1 a2 a3 a4:Int):Option T28:=
 (f121 k (wr .i64 (a1+4))).bind λx2=>
 some (((x2.1.1.1,x2.1.1.2.1,x2.1.1.2.2.1,x2.1.1.2.2.2.1,x2.1.1.2.2.2.2.1,x2.1.1.2.2.2.2.2.1,()),()),())
def B8 :af:=ee 173 [(0,.agg k3)] [(0,.agg k1)] λk v=>f173 k v.1.1.1 v.1.1.2.1 v.1.1.2.2.1 v.1.1.2.2.2.1
def Xz (k:Nat):Full:=fl k 7 [BZ]
theorem JM :SN B8:=so Tryz.func173 Xz (λ_ j=>⟨JG.at j,trivial⟩) (λ_ _=>by kernel_rfl)
def f119 (k:Nat)(a1 a2 a3 a4 a5 a6 a7:Int):Option ((T24×Unit)×Unit):=
 (f173 k a7 0 0 0).bind λx3=>
 (f161 k x3.1.1.1 x3.1.1.2.1 x3.1.1.2.2.1 x3.1.1.2.2.2.1 x3.1.1.2.2.2.2.1 x3.1.1.2.2.2.2.2.1 a1 a2 a3 a4 a5 a6).bind λx4=>
 some (((a7,x4.1.1.1,x4.1.1.2.1,x4.1.1.2.2.1,()),()),())
def Ic :af:=ee 119 [(0,.agg k1),(1,.c (.int .i64))] [(0,.agg k3)] λk v=>f119 k v.1.1.1 v.1.1.2.1 v.1.1.2.2.1 v.1.1.2.2.2.1 v.1.1.2.2.2.2.1 v.1.1.2.2.2.2.2.1 v.1.2.1
def W4 (k:Nat):Full:=fl k 14 [B8,uY] (touch:=[(2,[(5,[5])])])
theorem RO :SN Ic:=so Tryz.func119 W4 (λ_ j=>⟨JM.at j,yz.at j,trivial⟩) (λ_ _=>by kernel_rfl)
def f172 (k:Nat)(a1 a2 a3 a4 a5 a6 a7 a8 a9 a10:Int):Option (T0×Unit):=
 (f173 k a1 a2 a3 a4).bind λx5=>
 (f161 k x5.1.1.1 x5.1.1.2.1 x5.1.1.2.2.1 x5.1.1.2.2.2.1 x5.1.1.2.2.2.2.1 x5.1.1.2.2.2.2.2.1 a5 a6 a7 a8 a9 a10).bind λx6=>
 (f206 k x6.1.1.1 x6.1.1.2.1 x6.1.1.2.2.1 a2 a3 a4).bind λx7=>
 (f162 k x7.1.1.1 x7.1.1.2.1 x7.1.1.2.2.1).bind λx8=>
 some ((x8.1.1,()),())
def Ir :af:=ee 172 [(0,.agg k3),(1,.agg k1)] [(0,.c (.int .i64))] λk v=>f172 k v.1.1.1 v.1.1.2.1 v.1.1.2.2.1 v.1.1.2.2.2.1 v.1.2.1.1 v.1.2.1.2.1 v.1.2.1.2.2.1 v.1.2.1.2.2.2.1 v.1.2.1.2.2.2.2.1 v.1.2.1.2.2.2.2.2.1
def Xy (k:Nat):Full:=fl k 13 [B8,uY,u9,uZ]
theorem R0 :SN Ir:=so Tryz.func172 Xy (λ_ j=>⟨JM.at j,yz.at j,yB.at j,yA.at j,trivial⟩) (λ_ _=>by kernel_rfl)
def f215 (k:Nat)(a1 a2 a3 a4 a5 a6 a7 a8 a9 a10 a11 a12:Int):Option ((T24×Bool×Unit)×Unit):=
 (f108 k a1 a2 a3 a4 a5 a6 a7 a8 a9 a10 a11 a12).bind λx3=>
 (f119 k a1 a2 a3 a4 a5 a6 (x3.1.1.tmod 8)).bind λx4=>
 some (((x4.1.1.1,x4.1.1.2.1,x4.1.1.2.2.1,x4.1.1.2.2.2.1,()),(decide (x3.1.1<8)),()),())
def Qy :af:=ee 215 [(0,.agg k1),(1,.agg k1)] [(0,.agg k3),(1,.c .bool)] λk v=>f215 k v.1.1.1 v.1.1.2.1 v.1.1.2.2.1 v.1.1.2.2.2.1 v.1.1.2.2.2.2.1 v.1.1.2.2.2.2.2.1 v.1.2.1.1 v.1.2.1.2.1 v.1.2.1.2.2.1 v.1.2.1.2.2.2.1 v.1.2.1.2.2.2.2.1 v.1.2.1.2.2.2.2.2.1
def XX (k:Nat):Full:=fl k 16 [qa,Ic]
theorem Zm :SN Qy:=so Tryz.func215 XX (λ_ j=>⟨te.at j,RO.at j,trivial⟩) (λ_ _=>by kernel_rfl)
def oR {ρ:Type}(k:Nat):Nat->Int->Int->Int->Int->Int->Int->Int->((((Unit×Int×Unit×Unit)×T21)->Option ρ)×Unit)->Option ρ|0,_,_,_,_,_,_,_,_=>none|j+1,v24,v25,v26,v27,v28,v29,v30,nx=>bif((fc .i64 v24 1)==0)then oR k j (wr .i64 (v24.tdiv 2)) v25 v26 v27 v28 v29 (wr .i64 (v30+1)) nx else nx.1 (((),v24,(),()),((v25,v26,v27,()),(v28,v29,v30,()),()))
def DO (k:Nat):Cut:=⟨⟨[(4,.c (.box 5000000)),(6,.c (.int .i64)),(7,.c (.box 5000001))],[(5000000,.box 69 k0),(5000001,.box 69 k0)],[]⟩,[(.exit 0,⟨[(4,.c (.box 5000000)),(6,.c (.int .i64)),(7,.c (.box 5000001))],[(5000000,.box 69 k0),(5000001,.box 69 k0)],[]⟩)],λρ j v nx=>oR k j v.1.2.1 v.2.1.1 v.2.1.2.1 v.2.1.2.2.1 v.2.2.1.1 v.2.2.1.2.1 v.2.2.1.2.2.1 nx⟩
def f237 (k:Nat)(a1 a2 a3 a4 a5 a6:Int):Option ((T19×Bool×Unit)×Unit):=let x16:Int:=(wr .i64 ((wr .i64 (a4*a4))-(wr .i64 ((wr .i64 (2*a5))*a5))));bif(x16==0)then some (((0,0,0,()),false,()),())else(f207 k a1 a2 a3 a4 (wr .i64 (0-a5)) 0).bind λx17=>oR k k x16 0 0 0 x17.1.1.1 x17.1.1.2.1 (wr .i64 (x17.1.1.2.2.1-a6)) (λx19:((Unit×Int×Unit×Unit)×T21)=>bif decide (x19.1.2.1=0)then none else bif((x19.2.2.1.1.tmod x19.1.2.1) !=0)then some (((0,0,0,()),false,()),())else bif decide (x19.1.2.1=0)then none else bif((x19.2.2.1.2.1.tmod x19.1.2.1) !=0)then some (((0,0,0,()),false,()),())else bif decide (x19.1.2.1=0)then none else bif decide (x19.1.2.1=0)then none else bif(decide (x19.2.2.1.2.2.1<0))then bif decide ((wr .i64 (0-x19.2.2.1.2.2.1))<0)then none else let x20:Int:=(fe .i64 (wr .i64 (x19.2.2.1.1.tdiv x19.1.2.1)) (wr .i64 (0-x19.2.2.1.2.2.1)));bif decide ((wr .i64 (0-x19.2.2.1.2.2.1))<0)then none else let x21:Int:=(fe .i64 (wr .i64 (x19.2.2.1.2.1.tdiv x19.1.2.1)) (wr .i64 (0-x19.2.2.1.2.2.1)));(f233 k x20 x21 0).bind λx22=>some (((x22.1.1.1,x22.1.1.2.1,x22.1.1.2.2.1,()),true,()),())else(f233 k (wr .i64 (x19.2.2.1.1.tdiv x19.1.2.1)) (wr .i64 (x19.2.2.1.2.1.tdiv x19.1.2.1)) x19.2.2.1.2.2.1).bind λx23=>some (((x23.1.1.1,x23.1.1.2.1,x23.1.1.2.2.1,()),true,()),()),())
def QP :af:=ee 237 [(0,.agg k0),(1,.agg k0)] [(0,.agg k0),(1,.c .bool)] λk v=>f237 k v.1.1.1 v.1.1.2.1 v.1.1.2.2.1 v.1.2.1.1 v.1.2.1.2.1 v.1.2.1.2.2.1
def Rw (k:Nat):Full:=fl k 89 [xQ,Cb] (cuts:=[(6,(DO k))]) (touch:=[(11,[(9,[5000001]),(11,[5000001])]),(13,[(13,[5000001]),(15,[5000001]),(17,[5000001])])])
theorem Ox (k:Nat):aF (Rw k) (DO k) (au Tryz.f237 6):=λρ v nx=>⟨by kernel_rfl,λj=>by kernel_rfl⟩
theorem ZD :SN QP:=so Tryz.func237 Rw (λ_ j=>⟨Cj.at j,JP.at j,trivial⟩) (λ_ _=>by kernel_rfl) (hob:=λk=>Eq.mpr (by kernel_rfl) (And.intro (Ox k) (trivial)))
def f216 (k:Nat)(a1 a2 a3 a4 a5 a6 a7 a8:Int):Option ((T27×Bool×Unit)×Unit):=(f173 k a1 a2 a3 a4).bind λx12=>(f173 k a5 a6 a7 a8).bind λx13=>(f160 k x12.1.1.1 x12.1.1.2.1 x12.1.1.2.2.1 x12.1.1.2.2.2.1 x12.1.1.2.2.2.2.1 x12.1.1.2.2.2.2.2.1 x13.1.1.1 x13.1.1.2.1 x13.1.1.2.2.1 x13.1.1.2.2.2.1 x13.1.1.2.2.2.2.1 x13.1.1.2.2.2.2.2.1).bind λx14=>(f207 k a2 a3 a4 x13.1.1.2.2.2.1 x13.1.1.2.2.2.2.1 x13.1.1.2.2.2.2.2.1).bind λx15=>(f207 k a6 a7 a8 x12.1.1.2.2.2.1 x12.1.1.2.2.2.2.1 x12.1.1.2.2.2.2.2.1).bind λx16=>(f206 k x15.1.1.1 x15.1.1.2.1 x15.1.1.2.2.1 x16.1.1.1 x16.1.1.2.1 x16.1.1.2.2.1).bind λx17=>(f237 k x17.1.1.1 x17.1.1.2.1 x17.1.1.2.2.1 x14.1.1.1 x14.1.1.2.1 x14.1.1.2.2.1).bind λx18=>(f207 k a6 a7 a8 x12.1.1.1 x12.1.1.2.1 x12.1.1.2.2.1).bind λx19=>(f207 k a2 a3 a4 x13.1.1.1 x13.1.1.2.1 x13.1.1.2.2.1).bind λx20=>(f206 k x19.1.1.1 x19.1.1.2.1 x19.1.1.2.2.1 x20.1.1.1 x20.1.1.2.1 x20.1.1.2.2.1).bind λx21=>(f237 k x21.1.1.1 x21.1.1.2.1 x21.1.1.2.2.1 x14.1.1.1 x14.1.1.2.1 x14.1.1.2.2.1).bind λx22=>bif x18.1.2.1 then some (((x18.1.1.1,x18.1.1.2.1,x18.1.1.2.2.1,x22.1.1.1,x22.1.1.2.1,x22.1.1.2.2.1,()),x22.1.2.1,()),())else some (((x18.1.1.1,x18.1.1.2.1,x18.1.1.2.2.1,x22.1.1.1,x22.1.1.2.1,x22.1.1.2.2.1,()),false,()),())
def Qz :af:=ee 216 [(0,.agg k3),(1,.agg k3)] [(0,.agg k1),(1,.c .bool)] λk v=>f216 k v.1.1.1 v.1.1.2.1 v.1.1.2.2.1 v.1.1.2.2.2.1 v.1.2.1.1 v.1.2.1.2.1 v.1.2.1.2.2.1 v.1.2.1.2.2.2.1
def XY (k:Nat):Full:=fl k 59 [B8,B6,xQ,u9,QP] (touch:=[(1,[(6,[6]),(7,[7])]),(3,[(17,[9])]),(4,[(17,[11])])])
theorem Zn :SN Qz:=so Tryz.func216 XY (λ_ j=>⟨JM.at j,JK.at j,Cj.at j,yB.at j,ZD.at j,trivial⟩) (λ_ _=>by kernel_rfl)
def jZ {ρ:Type}(k:Nat)(v116:T6)(v117:Int)(v118:Bool)(v119 v120:Int)(v121:T6)(v122 v123 v124 v125 v126 v127:Int)(v128:T6)(v129 v130 v131 v132 v133 v134 v135 v136 v137 v138 v139 v140:Int)(nx:(((T32×(T24×T6×Unit))->Option ρ)×Unit)):Option ρ:=bif(decide ((wr .i64 (v119*v120))<0))then(f215 k v129 v130 v131 v132 v133 v134 v135 v136 v137 v138 v139 v140).bind λx141=>(f216 k x141.1.1.1 x141.1.1.2.1 x141.1.1.2.2.1 x141.1.1.2.2.2.1 v124 v125 v126 v127).bind λx142=>bif decide ((v128.length+[((x142.1.1.1,(x142.1.1.2.1,x142.1.1.2.2.1)),(x142.1.1.2.2.2.1,(x142.1.1.2.2.2.2.1,x142.1.1.2.2.2.2.2.1)))].length)*48≤roomy)then let x143:T6:=(v128++[((x142.1.1.1,(x142.1.1.2.1,x142.1.1.2.2.1)),(x142.1.1.2.2.2.1,(x142.1.1.2.2.2.2.1,x142.1.1.2.2.2.2.2.1)))]);nx.1 ((v116,v117,(),(),v118,v121,v122,v123,()),((v124,v125,v126,v127,()),x143,()))else none else nx.1 ((v116,v117,(),(),v118,v121,v122,v123,()),((v124,v125,v126,v127,()),v128,()))
def Ak :Cut:=⟨⟨[(0,.c (.sl (.pair u1 u1))),(2,.c (.int .i64)),(4,.c (.box 5000000)),(7,.c (.row 5000001)),(8,.c .bool),(10,.c (.box 5000002)),(11,.c (.box 5000003)),(12,.c (.int .i64)),(13,.c (.int .i64)),(18,.c (.sl (.pair u1 u1))),(19,.c (.int .i64)),(20,.c (.int .i64))],[(5000000,.box 147 k3),(5000001,.row 71 (.pair u1 u1)),(5000002,.box 71 k1),(5000003,.box 71 k1)],[]⟩,[(.normal,⟨[(0,.c (.sl (.pair u1 u1))),(2,.c (.int .i64)),(4,.c (.box 5000000)),(7,.c (.row 5000001)),(8,.c .bool),(18,.c (.sl (.pair u1 u1))),(19,.c (.int .i64)),(20,.c (.int .i64))],[(5000000,.box 147 k3),(5000001,.row 71 (.pair u1 u1))],[]⟩)],λρ k v nx=>jZ k v.1.1 v.1.2.1 v.1.2.2.2.2.1 v.1.2.2.2.2.2.2.2.1 v.1.2.2.2.2.2.2.2.2.1 v.1.2.2.2.2.2.2.2.2.2.1 v.1.2.2.2.2.2.2.2.2.2.2.1 v.1.2.2.2.2.2.2.2.2.2.2.2.1 v.2.1.1 v.2.1.2.1 v.2.1.2.2.1 v.2.1.2.2.2.1 v.2.2.1 v.2.2.2.1.1 v.2.2.2.1.2.1 v.2.2.2.1.2.2.1 v.2.2.2.1.2.2.2.1 v.2.2.2.1.2.2.2.2.1 v.2.2.2.1.2.2.2.2.2.1 v.2.2.2.2.1.1 v.2.2.2.2.1.2.1 v.2.2.2.2.1.2.2.1 v.2.2.2.2.1.2.2.2.1 v.2.2.2.2.1.2.2.2.2.1 v.2.2.2.2.1.2.2.2.2.2.1 nx⟩
def jr {ρ:Type}(k:Nat):Nat->T6->Int->Bool->T6->Int->Int->Int->Int->Int->Int->T6->(((T17×(T6×Unit))->Option ρ)×Unit)->Option ρ|0,_,_,_,_,_,_,_,_,_,_,_,_=>none|j+1,v97,v98,v99,v100,v101,v102,v103,v104,v105,v106,v107,nx=>bif(decide (v102<v101))then(aq v100 v102).bind λx108=>bif decide ((v97.length:Int)=0)then none else let x109:Int:=((wr .i64 (v102+1)).tmod (v97.length:Int));(aq v97 x109).bind λx110=>(f172 k v103 v104 v105 v106 x108.1.1 x108.1.2.1 x108.1.2.2 x108.2.1 x108.2.2.1 x108.2.2.2).bind λx111=>(f172 k v103 v104 v105 v106 x110.1.1 x110.1.2.1 x110.1.2.2 x110.2.1 x110.2.2.1 x110.2.2.2).bind λx112=>bif(decide ((wr .i64 (v98*x111.1.1))≥0))then bif decide ((v107.length+[x108].length)*48≤roomy)then bif v99 then jZ k v97 v98 true (wr .i64 (v98*x111.1.1)) (wr .i64 (v98*x112.1.1)) v100 v101 v102 v103 v104 v105 v106 (v107++[x108]) x108.1.1 x108.1.2.1 x108.1.2.2 x108.2.1 x108.2.2.1 x108.2.2.2 x110.1.1 x110.1.2.1 x110.1.2.2 x110.2.1 x110.2.2.1 x110.2.2.2 (λx113:(T32×(T24×T6×Unit))=>jr k j x113.1.1 x113.1.2.1 x113.1.2.2.2.2.1 x113.1.2.2.2.2.2.1 x113.1.2.2.2.2.2.2.1 (wr .i64 (x113.1.2.2.2.2.2.2.2.1+1)) x113.2.1.1 x113.2.1.2.1 x113.2.1.2.2.1 x113.2.1.2.2.2.1 x113.2.2.1 nx,())else jZ k v97 v98 (decide ((wr .i64 (v98*x111.1.1))>0)) (wr .i64 (v98*x111.1.1)) (wr .i64 (v98*x112.1.1)) v100 v101 v102 v103 v104 v105 v106 (v107++[x108]) x108.1.1 x108.1.2.1 x108.1.2.2 x108.2.1 x108.2.2.1 x108.2.2.2 x110.1.1 x110.1.2.1 x110.1.2.2 x110.2.1 x110.2.2.1 x110.2.2.2 (λx114:(T32×(T24×T6×Unit))=>jr k j x114.1.1 x114.1.2.1 x114.1.2.2.2.2.1 x114.1.2.2.2.2.2.1 x114.1.2.2.2.2.2.2.1 (wr .i64 (x114.1.2.2.2.2.2.2.2.1+1)) x114.2.1.1 x114.2.1.2.1 x114.2.1.2.2.1 x114.2.1.2.2.2.1 x114.2.2.1 nx,())else none else jZ k v97 v98 v99 (wr .i64 (v98*x111.1.1)) (wr .i64 (v98*x112.1.1)) v100 v101 v102 v103 v104 v105 v106 v107 x108.1.1 x108.1.2.1 x108.1.2.2 x108.2.1 x108.2.2.1 x108.2.2.2 x110.1.1 x110.1.2.1 x110.1.2.2 x110.2.1 x110.2.2.1 x110.2.2.2 (λx115:(T32×(T24×T6×Unit))=>jr k j x115.1.1 x115.1.2.1 x115.1.2.2.2.2.1 x115.1.2.2.2.2.2.1 x115.1.2.2.2.2.2.2.1 (wr .i64 (x115.1.2.2.2.2.2.2.2.1+1)) x115.2.1.1 x115.2.1.2.1 x115.2.1.2.2.1 x115.2.1.2.2.2.1 x115.2.2.1 nx,())else nx.1 (((),v99,()),(v107,()))
def Dh (k:Nat):Cut:=⟨⟨[(0,.c (.sl (.pair u1 u1))),(2,.c (.int .i64)),(4,.c (.box 5000000)),(7,.c (.row 5000001)),(8,.c .bool),(18,.c (.sl (.pair u1 u1))),(19,.c (.int .i64)),(20,.c (.int .i64))],[(5000000,.box 147 k3),(5000001,.row 71 (.pair u1 u1))],[]⟩,[(.exit 0,⟨[(7,.c (.row 5000000)),(8,.c .bool)],[(5000000,.row 71 (.pair u1 u1))],[]⟩)],λρ j v nx=>jr k j v.1.1 v.1.2.1 v.1.2.2.2.2.1 v.1.2.2.2.2.2.1 v.1.2.2.2.2.2.2.1 v.1.2.2.2.2.2.2.2.1 v.2.1.1 v.2.1.2.1 v.2.1.2.2.1 v.2.1.2.2.2.1 v.2.2.1 nx⟩
def f171 (k:Nat)(a1:T6)(a2 a3 a4 a5 a6:Int):Option T10:=jr k k a1 a6 false a1 (a1.length:Int) 0 a2 a3 a4 a5 ([]:List (T5×T5)) (λx95:(T17×(T6×Unit))=>bif(!x95.1.2.1)then some (((),()),(([]:List (T5×T5)),()))else(f169 k x95.2.1).bind λx96=>some (((),()),(x96.2.1,())),())
def P8 :af:=⟨171,⟨[(0,.c (.sl (.pair u1 u1))),(1,.agg k3),(2,.c (.int .i64))],[],[]⟩,⟨[(0,.c (.row 4000000))],[(4000000,.row 71 (.pair u1 u1))],[]⟩,λk v=>f171 k v.1.1 v.1.2.1.1 v.1.2.1.2.1 v.1.2.1.2.2.1 v.1.2.1.2.2.2.1 v.1.2.2.1⟩
def IZ (k:Nat):Full:=fl k 79 [Ir,Qy,Qz,B7] (cuts:=[(4,(Dh k))]) (joins:=[(11,Ak)])
theorem Lh (k:Nat):dh (IZ k) Ak (cY Tryz.f171 11):=λρ v nx=>by kernel_rfl
theorem NX (k:Nat):aF (IZ k) (Dh k) (au Tryz.f171 4):=λρ v nx=>⟨by kernel_rfl,λj=>by kernel_rfl⟩
theorem YW :SN P8:=so Tryz.func171 IZ (λ_ j=>⟨R0.at j,Zm.at j,Zn.at j,JL.at j,trivial⟩) (λ_ _=>by kernel_rfl) (hob:=λk=>Eq.mpr (by kernel_rfl) (And.intro (Lh k) (And.intro (NX k) (trivial))))
def lP {ρ:Type}(k:Nat):Nat->Int->Int->Int->Int->Int->Int->Int->Int->Int->Int->Int->Int->Int->Int->Int->Int->Int->Int->T6->T6->(((T23×(T27×T27×T6×Unit))->Option ρ)×Unit)->Option ρ|0,_,_,_,_,_,_,_,_,_,_,_,_,_,_,_,_,_,_,_,_,_=>none|j+1,v64,v65,v66,v67,v68,v69,v70,v71,v72,v73,v74,v75,v76,v77,v78,v79,v80,v81,v82,v83,nx=>bif(decide (v65<v64))then bif decide (0≤v65)&&decide (v65<(v83.length:Int))then(v83[v65.toNat]?).bind λx84=>(f172 k v66 v67 v68 v69 x84.1.1 x84.1.2.1 x84.1.2.2 x84.2.1 x84.2.2.1 x84.2.2.2).bind λx85=>bif(x85.1.1==0)then bif decide ((v82.length+[x84].length)*48≤roomy)then lP k j v64 (wr .i64 (v65+1)) v66 v67 v68 v69 v70 v71 v72 v73 v74 v75 v76 v77 v78 v79 v80 v81 (v82++[x84]) v83 nx else none else lP k j v64 (wr .i64 (v65+1)) v66 v67 v68 v69 v70 v71 v72 v73 v74 v75 v76 v77 v78 v79 v80 v81 v82 v83 nx else none else nx.1 (((),(),(),()),((v70,v71,v72,v73,v74,v75,()),(v76,v77,v78,v79,v80,v81,()),v82,()))
def CQ (k:Nat):Cut:=⟨⟨[(3,.c (.box 5000000)),(4,.c (.box 5000001)),(5,.c (.box 5000002)),(7,.c (.row 5000003)),(26,.c (.row 5000004)),(27,.c (.int .i64)),(28,.c (.int .i64))],[(5000000,.box 147 k3),(5000001,.box 71 k1),(5000002,.box 71 k1),(5000003,.row 71 (.pair u1 u1)),(5000004,.row 71 (.pair u1 u1))],[]⟩,[(.exit 0,⟨[(4,.c (.box 5000000)),(5,.c (.box 5000001)),(7,.c (.row 5000002))],[(5000000,.box 71 k1),(5000001,.box 71 k1),(5000002,.row 71 (.pair u1 u1))],[]⟩)],λρ j v nx=>lP k j v.1.2.2.2.2.2.1 v.1.2.2.2.2.2.2.1 v.2.1.1 v.2.1.2.1 v.2.1.2.2.1 v.2.1.2.2.2.1 v.2.2.1.1 v.2.2.1.2.1 v.2.2.1.2.2.1 v.2.2.1.2.2.2.1 v.2.2.1.2.2.2.2.1 v.2.2.1.2.2.2.2.2.1 v.2.2.2.1.1 v.2.2.2.1.2.1 v.2.2.2.1.2.2.1 v.2.2.2.1.2.2.2.1 v.2.2.2.1.2.2.2.2.1 v.2.2.2.1.2.2.2.2.2.1 v.2.2.2.2.1 v.2.2.2.2.2.1 nx⟩
def f118 (k:Nat)(a1:T6)(a2 a3 a4 a5:Int):Option ((T27×T27×Bool×Unit)×Unit):=(f171 k a1 a2 a3 a4 a5 1).bind λx56=>bif((x56.2.1.length:Int)==0)then some (((0,0,0,0,0,0,()),(0,0,0,0,0,0,()),false,()),())else(f171 k a1 a2 a3 a4 a5 (-1)).bind λx57=>bif((x57.2.1.length:Int)==0)then some (((0,0,0,0,0,0,()),(0,0,0,0,0,0,()),false,()),())else(f171 k a1 a2 a3 a4 a5 1).bind λx60=>lP k k (x60.2.1.length:Int) 0 a2 a3 a4 a5 0 0 0 0 0 0 0 0 0 0 0 0 ([]:List (T5×T5)) x60.2.1 (λx61:(T23×(T27×T27×T6×Unit))=>bif decide (0≤0)&&decide (0<(x61.2.2.2.1.length:Int))then(x61.2.2.2.1[0]?).bind λx62=>bif decide (0≤(wr .i64 ((x61.2.2.2.1.length:Int)-1)))&&decide ((wr .i64 ((x61.2.2.2.1.length:Int)-1))<(x61.2.2.2.1.length:Int))then(x61.2.2.2.1[(wr .i64 ((x61.2.2.2.1.length:Int)-1)).toNat]?).bind λx63=>some (((x62.1.1,x62.1.2.1,x62.1.2.2,x62.2.1,x62.2.2.1,x62.2.2.2,()),(x63.1.1,x63.1.2.1,x63.1.2.2,x63.2.1,x63.2.2.1,x63.2.2.2,()),true,()),())else none else none,())
def PH :af:=ee 118 [(0,.c (.sl (.pair u1 u1))),(1,.agg k3)] [(0,.agg k1),(1,.agg k1),(2,.c .bool)] λk v=>f118 k v.1.1 v.1.2.1.1 v.1.2.1.2.1 v.1.2.1.2.2.1 v.1.2.1.2.2.2.1
def Q0 (k:Nat):Full:=fl k 50 [P8,Ir] (cuts:=[(5,(CQ k))]) (touch:=[(10,[(9,[5000000]),(10,[5000001])])])
theorem Nz (k:Nat):aF (Q0 k) (CQ k) (au Tryz.f118 5):=λρ v nx=>⟨by kernel_rfl,λj=>by kernel_rfl⟩
theorem Yt :SN PH:=so Tryz.func118 Q0 (λ_ j=>⟨YW.at j,R0.at j,trivial⟩) (λ_ _=>by kernel_rfl) (hob:=λk=>Eq.mpr (by kernel_rfl) (And.intro (Nz k) (trivial)))
def f174 (k:Nat)(a1 a2 a3 a4 a5 a6 a7 a8 a9 a10 a11 a12 a13 a14 a15 a16 a17 a18:Int):Option (T21×Unit):=(f161 k a1 a2 a3 a4 a5 a6 a7 a8 a9 a10 a11 a12).bind λx4=>(f161 k a1 a2 a3 a4 a5 a6 a13 a14 a15 a16 a17 a18).bind λx5=>(f158 k x4.1.1.1 x4.1.1.2.1 x4.1.1.2.2.1 x5.1.1.1 x5.1.1.2.1 x5.1.1.2.2.1).bind λx6=>bif(decide (x6.1.1>0))then some (((x5.1.1.1,x5.1.1.2.1,x5.1.1.2.2.1,()),(x4.1.1.1,x4.1.1.2.1,x4.1.1.2.2.1,()),()),())else some (((x4.1.1.1,x4.1.1.2.1,x4.1.1.2.2.1,()),(x5.1.1.1,x5.1.1.2.1,x5.1.1.2.2.1,()),()),())
def P9 :af:=ee 174 [(0,.agg k1),(1,.agg k1),(2,.agg k1)] [(0,.agg k0),(1,.agg k0)] λk v=>f174 k v.1.1.1 v.1.1.2.1 v.1.1.2.2.1 v.1.1.2.2.2.1 v.1.1.2.2.2.2.1 v.1.1.2.2.2.2.2.1 v.1.2.1.1 v.1.2.1.2.1 v.1.2.1.2.2.1 v.1.2.1.2.2.2.1 v.1.2.1.2.2.2.2.1 v.1.2.1.2.2.2.2.2.1 v.1.2.2.1.1 v.1.2.2.1.2.1 v.1.2.2.1.2.2.1 v.1.2.2.1.2.2.2.1 v.1.2.2.1.2.2.2.2.1 v.1.2.2.1.2.2.2.2.2.1
def XA (k:Nat):Full:=fl k 24 [uY,B4] (touch:=[(1,[(8,[8]),(9,[9])]),(4,[(2,[6]),(3,[7])])])
theorem YX :SN P9:=so Tryz.func174 XA (λ_ j=>⟨yz.at j,JI.at j,trivial⟩) (λ_ _=>by kernel_rfl)
def qX {ρ:Type}(k:Nat)(v62 v63 v64 v65 v66 v67 v68 v69 v70 v71 v72 v73:Int)(nx:(((T22×T21)->Option ρ)×Unit)):Option ρ:=
 (f158 k v68 v69 v70 v71 v72 v73).bind λx74=>
 nx.1 (((),(),(decide (x74.1.1<0)),()),((v68,v69,v70,()),(v71,v72,v73,()),()))
def CS :Cut:=⟨⟨[(10,.c (.box 5000000)),(11,.c (.box 5000001)),(13,.c (.box 5000002)),(14,.c (.box 5000003))],[(5000000,.box 69 k0),(5000001,.box 69 k0),(5000002,.box 69 k0),(5000003,.box 69 k0)],[]⟩,[(.ret,⟨[(10,.c (.box 5000000)),(11,.c (.box 5000001)),(12,.c .bool)],[(5000000,.box 69 k0),(5000001,.box 69 k0)],[]⟩)],λρ k v nx=>qX k v.2.1.1 v.2.1.2.1 v.2.1.2.2.1 v.2.2.1.1 v.2.2.1.2.1 v.2.2.1.2.2.1 v.2.2.2.1.1 v.2.2.2.1.2.1 v.2.2.2.1.2.2.1 v.2.2.2.2.1.1 v.2.2.2.2.1.2.1 v.2.2.2.2.1.2.2.1 nx⟩
def lQ {ρ:Type}(k:Nat)(v44 v45 v46 v47 v48 v49 v50 v51 v52 v53 v54 v55 v56 v57 v58:Int)(nx:(((T22×T21)->Option ρ)×Unit)):Option ρ:=(f158 k v56 v57 v58 v53 v54 v55).bind λx59=>bif(decide (x59.1.1<0))then qX k v44 v45 v46 v47 v48 v49 v50 v51 v52 v56 v57 v58 (λx60:(T22×T21)=>nx.1 (((),(),x60.1.2.2.1,()),((x60.2.1.1,x60.2.1.2.1,x60.2.1.2.2.1,()),(x60.2.2.1.1,x60.2.2.1.2.1,x60.2.2.1.2.2.1,()),())),())else qX k v44 v45 v46 v47 v48 v49 v50 v51 v52 v53 v54 v55 (λx61:(T22×T21)=>nx.1 (((),(),x61.1.2.2.1,()),((x61.2.1.1,x61.2.1.2.1,x61.2.1.2.2.1,()),(x61.2.2.1.1,x61.2.2.1.2.1,x61.2.2.1.2.2.1,()),())),())
def CR :Cut:=⟨⟨[(10,.c (.box 5000000)),(11,.c (.box 5000001)),(13,.c (.box 5000002)),(14,.c (.box 5000003)),(16,.c (.box 5000004))],[(5000000,.box 69 k0),(5000001,.box 69 k0),(5000002,.box 69 k0),(5000003,.box 69 k0),(5000004,.box 69 k0)],[]⟩,[(.ret,⟨[(10,.c (.box 5000000)),(11,.c (.box 5000001)),(12,.c .bool)],[(5000000,.box 69 k0),(5000001,.box 69 k0)],[]⟩)],λρ k v nx=>lQ k v.2.1.1 v.2.1.2.1 v.2.1.2.2.1 v.2.2.1.1 v.2.2.1.2.1 v.2.2.1.2.2.1 v.2.2.2.1.1 v.2.2.2.1.2.1 v.2.2.2.1.2.2.1 v.2.2.2.2.1.1 v.2.2.2.2.1.2.1 v.2.2.2.2.1.2.2.1 v.2.2.2.2.2.1.1 v.2.2.2.2.2.1.2.1 v.2.2.2.2.2.1.2.2.1 nx⟩
def f120 (k:Nat)(a1 a2 a3 a4 a5 a6 a7 a8 a9 a10 a11 a12 a13 a14 a15 a16 a17 a18 a19 a20 a21 a22 a23 a24 a25 a26 a27 a28 a29 a30:Int):Option ((T19×T19×Bool×Unit)×Unit):=(f174 k a1 a2 a3 a4 a5 a6 a7 a8 a9 a10 a11 a12 a13 a14 a15 a16 a17 a18).bind λx39=>(f174 k a1 a2 a3 a4 a5 a6 a19 a20 a21 a22 a23 a24 a25 a26 a27 a28 a29 a30).bind λx40=>(f158 k x40.1.1.1 x40.1.1.2.1 x40.1.1.2.2.1 x39.1.1.1 x39.1.1.2.1 x39.1.1.2.2.1).bind λx41=>bif(decide (x41.1.1>0))then lQ k 0 0 0 0 0 0 x40.1.1.1 x40.1.1.2.1 x40.1.1.2.2.1 x39.1.2.1.1 x39.1.2.1.2.1 x39.1.2.1.2.2.1 x40.1.2.1.1 x40.1.2.1.2.1 x40.1.2.1.2.2.1 (λx42:(T22×T21)=>some (((x42.2.1.1,x42.2.1.2.1,x42.2.1.2.2.1,()),(x42.2.2.1.1,x42.2.2.1.2.1,x42.2.2.1.2.2.1,()),x42.1.2.2.1,()),()),())else lQ k 0 0 0 0 0 0 x39.1.1.1 x39.1.1.2.1 x39.1.1.2.2.1 x39.1.2.1.1 x39.1.2.1.2.1 x39.1.2.1.2.2.1 x40.1.2.1.1 x40.1.2.1.2.1 x40.1.2.1.2.2.1 (λx43:(T22×T21)=>some (((x43.2.1.1,x43.2.1.2.1,x43.2.1.2.2.1,()),(x43.2.2.1.1,x43.2.2.1.2.1,x43.2.2.1.2.2.1,()),x43.1.2.2.1,()),()),())
def PI :af:=ee 120 [(0,.agg k1),(1,.agg k1),(2,.agg k1),(3,.agg k1),(4,.agg k1)] [(0,.agg k0),(1,.agg k0),(2,.c .bool)] λk v=>f120 k v.1.1.1 v.1.1.2.1 v.1.1.2.2.1 v.1.1.2.2.2.1 v.1.1.2.2.2.2.1 v.1.1.2.2.2.2.2.1 v.1.2.1.1 v.1.2.1.2.1 v.1.2.1.2.2.1 v.1.2.1.2.2.2.1 v.1.2.1.2.2.2.2.1 v.1.2.1.2.2.2.2.2.1 v.1.2.2.1.1 v.1.2.2.1.2.1 v.1.2.2.1.2.2.1 v.1.2.2.1.2.2.2.1 v.1.2.2.1.2.2.2.2.1 v.1.2.2.1.2.2.2.2.2.1 v.1.2.2.2.1.1 v.1.2.2.2.1.2.1 v.1.2.2.2.1.2.2.1 v.1.2.2.2.1.2.2.2.1 v.1.2.2.2.1.2.2.2.2.1 v.1.2.2.2.1.2.2.2.2.2.1 v.1.2.2.2.2.1.1 v.1.2.2.2.2.1.2.1 v.1.2.2.2.2.1.2.2.1 v.1.2.2.2.2.1.2.2.2.1 v.1.2.2.2.2.1.2.2.2.2.1 v.1.2.2.2.2.1.2.2.2.2.2.1
def IX (k:Nat):Full:=fl k 47 [P9,B4] (joins:=[(7,CS),(5,CR)]) (touch:=[(7,[(6,[5000000]),(7,[5000001])])])
theorem NB (k:Nat):dh (IX k) CS (cY Tryz.f120 7):=λρ v nx=>by kernel_rfl
theorem NA (k:Nat):dh (IX k) CR (cY Tryz.f120 5):=λρ v nx=>by kernel_rfl
theorem Yu :SN PI:=so Tryz.func120 IX (λ_ j=>⟨YX.at j,JI.at j,trivial⟩) (λ_ _=>by kernel_rfl) (hob:=λk=>Eq.mpr (by kernel_rfl) (And.intro (NB k) (And.intro (NA k) (trivial))))
def f66 (k:Nat)(a1:T6)(a2 a3 a4 a5 a6 a7 a8 a9 a10 a11 a12 a13:Int):Option (T2×Unit):=(f108 k a2 a3 a4 a5 a6 a7 a8 a9 a10 a11 a12 a13).bind λx6=>bif(decide (x6.1.1<0))then some ((false,()),())else(f119 k a2 a3 a4 a5 a6 a7 (x6.1.1.tmod 8)).bind λx7=>(f118 k a1 x7.1.1.1 x7.1.1.2.1 x7.1.1.2.2.1 x7.1.1.2.2.2.1).bind λx8=>bif(!x8.1.2.2.1)then some ((false,()),())else(f121 k x6.1.1).bind λx9=>(f120 k x9.1.1.1 x9.1.1.2.1 x9.1.1.2.2.1 x9.1.1.2.2.2.1 x9.1.1.2.2.2.2.1 x9.1.1.2.2.2.2.2.1 a2 a3 a4 a5 a6 a7 a8 a9 a10 a11 a12 a13 x8.1.1.1 x8.1.1.2.1 x8.1.1.2.2.1 x8.1.1.2.2.2.1 x8.1.1.2.2.2.2.1 x8.1.1.2.2.2.2.2.1 x8.1.2.1.1 x8.1.2.1.2.1 x8.1.2.1.2.2.1 x8.1.2.1.2.2.2.1 x8.1.2.1.2.2.2.2.1 x8.1.2.1.2.2.2.2.2.1).bind λx10=>some ((x10.1.2.2.1,()),())
def UT :af:=ee 66 [(0,.c (.sl (.pair u1 u1))),(1,.agg k1),(2,.agg k1)] [(0,.c .bool)] λk v=>f66 k v.1.1 v.1.2.1.1 v.1.2.1.2.1 v.1.2.1.2.2.1 v.1.2.1.2.2.2.1 v.1.2.1.2.2.2.2.1 v.1.2.1.2.2.2.2.2.1 v.1.2.2.1.1 v.1.2.2.1.2.1 v.1.2.2.1.2.2.1 v.1.2.2.1.2.2.2.1 v.1.2.2.1.2.2.2.2.1 v.1.2.2.1.2.2.2.2.2.1
def aah (k:Nat):Full:=fl k 40 [qa,Ic,PH,BZ,PI]
theorem abk :SN UT:=so Tryz.func66 aah (λ_ j=>⟨te.at j,RO.at j,Yt.at j,JG.at j,Yu.at j,trivial⟩) (λ_ _=>by kernel_rfl)
def lb {ρ:Type}(k:Nat):Nat->(List T5)->Int->Int->T6->(List T5)->T6->((T1->Option ρ)×((T2×Unit)->Option ρ)×Unit)->Option ρ|0,_,_,_,_,_,_,_=>none|j+1,v35,v36,v37,v38,v39,v40,nx=>bif(decide (v37<v36))then(aq v35 v37).bind λx41=>bif(x41.2.2==1)then lb k j v35 v36 (wr .i64 (v37+1)) v38 v39 v40 nx else(f63 k v38 v39 x41.1 x41.2.1 x41.2.2).bind λx42=>(f64 k v38 v39 x41.1 x41.2.1 x41.2.2).bind λx43=>(f65 k v40 x42.1.1.1 x42.1.1.2.1 x42.1.1.2.2.1 x42.1.1.2.2.2.1 x42.1.1.2.2.2.2.1 x42.1.1.2.2.2.2.2.1).bind λx44=>bif(decide (x44.1.1<0))then nx.2.1 ((false,()),())else(f65 k v40 x43.1.1.1 x43.1.1.2.1 x43.1.1.2.2.1 x43.1.1.2.2.2.1 x43.1.1.2.2.2.2.1 x43.1.1.2.2.2.2.2.1).bind λx45=>bif(decide (x45.1.1<0))then nx.2.1 ((false,()),())else(f66 k v40 x42.1.1.1 x42.1.1.2.1 x42.1.1.2.2.1 x42.1.1.2.2.2.1 x42.1.1.2.2.2.2.1 x42.1.1.2.2.2.2.2.1 x43.1.1.1 x43.1.1.2.1 x43.1.1.2.2.1 x43.1.1.2.2.2.1 x43.1.1.2.2.2.2.1 x43.1.1.2.2.2.2.2.1).bind λx46=>bif(!x46.1.1)then nx.2.1 ((false,()),())else lb k j v35 v36 (wr .i64 (v37+1)) v38 v39 v40 nx else nx.1 ((),())
def Gx (k:Nat):Cut:=⟨⟨[(1,.c (.box 5000000)),(3,.c (.row 5000001)),(35,.c (.sl u1)),(36,.c (.int .i64)),(37,.c (.int .i64))],[(5000000,.box 31 k2),(5000001,.row 71 (.pair u1 u1))],[]⟩,[(.exit 0,⟨[],[],[]⟩),(.ret,⟨[(2,.c .bool)],[],[]⟩)],λρ j v nx=>lb k j v.1.2.2.1 v.1.2.2.2.1 v.1.2.2.2.2.1 v.2.1.1 v.2.1.2.1 v.2.2.1 nx⟩
def f36 (k:Nat)(a1:T6)(a2:(List T5)):Option (T2×Unit):=(f58 k a1 a2).bind λx28=>bif(!x28.1.1)then some ((false,()),())else(f59 k a1 a2).bind λx29=>bif(!x29.1.1)then some ((false,()),())else(f60 k a1 a2).bind λx30=>bif(!x30.1.1)then some ((false,()),())else(f61 k a1 a2).bind λx31=>bif(!x31.1.1)then some ((false,()),())else(f62 k a1 a2).bind λx32=>bif(!x32.1.2.1)then some ((false,()),())else lb k k a2 (a2.length:Int) 0 a1 a2 x32.2.1 (λx33:T1=>some ((true,()),()),λx34:(T2×Unit)=>some ((x34.1.1,()),()),())
def IE :af:=ee 36 [(0,.agg k2)] [(0,.c .bool)] λk v=>f36 k v.1.1.1 v.1.1.2.1
def Vw (k:Nat):Full:=fl k 68 [UN,UO,UP,UQ,UR,IH,II,US,UT] (cuts:=[(7,(Gx k))]) (touch:=[(10,[(8,[7]),(9,[8])])])
theorem SU (k:Nat):aF (Vw k) (Gx k) (au Tryz.f36 7):=λρ v nx=>⟨by kernel_rfl,λj=>by kernel_rfl⟩
theorem O6 :SN IE:=so Tryz.func36 Vw (λ_ j=>⟨abe.at j,abf.at j,abg.at j,abh.at j,abi.at j,O9.at j,Pa.at j,abj.at j,abk.at j,trivial⟩) (λ_ _=>by kernel_rfl) (hob:=λk=>Eq.mpr (by kernel_rfl) (And.intro (SU k) (trivial)))
def zo {ρ:Type}(k:Nat)(v18 v19:Int)(nx:(((T0×Unit)->Option ρ)×Unit)):Option ρ:=bif(decide (v18≥256))then((if 0≤(wr .u8 (fy .u64 v18 8))then(ByteArray.mk #[0,1,2,2,3,3,3,3,4,4,4,4,4,4,4,4,5,5,5,5,5,5,5,5,5,5,5,5,5,5,5,5,6,6,6,6,6,6,6,6,6,6,6,6,6,6,6,6,6,6,6,6,6,6,6,6,6,6,6,6,6,6,6,6,7,7,7,7,7,7,7,7,7,7,7,7,7,7,7,7,7,7,7,7,7,7,7,7,7,7,7,7,7,7,7,7,7,7,7,7,7,7,7,7,7,7,7,7,7,7,7,7,7,7,7,7,7,7,7,7,7,7,7,7,7,7,7,7,8,8,8,8,8,8,8,8,8,8,8,8,8,8,8,8,8,8,8,8,8,8,8,8,8,8,8,8,8,8,8,8,8,8,8,8,8,8,8,8,8,8,8,8,8,8,8,8,8,8,8,8,8,8,8,8,8,8,8,8,8,8,8,8,8,8,8,8,8,8,8,8,8,8,8,8,8,8,8,8,8,8,8,8,8,8,8,8,8,8,8,8,8,8,8,8,8,8,8,8,8,8,8,8,8,8,8,8,8,8,8,8,8,8,8,8,8,8,8,8,8,8,8,8,8,8,8,8])[(wr .u8 (fy .u64 v18 8)).toNat]? else none)).bind λx20=>let x21:Int:=(wr .i64 ((wr .i64 (v19+8))+(wr .i64 (x20.toNat:Int))));nx.1 ((x21,()),())else((if 0≤(wr .u8 v18)then(ByteArray.mk #[0,1,2,2,3,3,3,3,4,4,4,4,4,4,4,4,5,5,5,5,5,5,5,5,5,5,5,5,5,5,5,5,6,6,6,6,6,6,6,6,6,6,6,6,6,6,6,6,6,6,6,6,6,6,6,6,6,6,6,6,6,6,6,6,7,7,7,7,7,7,7,7,7,7,7,7,7,7,7,7,7,7,7,7,7,7,7,7,7,7,7,7,7,7,7,7,7,7,7,7,7,7,7,7,7,7,7,7,7,7,7,7,7,7,7,7,7,7,7,7,7,7,7,7,7,7,7,7,8,8,8,8,8,8,8,8,8,8,8,8,8,8,8,8,8,8,8,8,8,8,8,8,8,8,8,8,8,8,8,8,8,8,8,8,8,8,8,8,8,8,8,8,8,8,8,8,8,8,8,8,8,8,8,8,8,8,8,8,8,8,8,8,8,8,8,8,8,8,8,8,8,8,8,8,8,8,8,8,8,8,8,8,8,8,8,8,8,8,8,8,8,8,8,8,8,8,8,8,8,8,8,8,8,8,8,8,8,8,8,8,8,8,8,8,8,8,8,8,8,8,8,8,8,8,8,8])[(wr .u8 v18).toNat]? else none)).bind λx22=>let x23:Int:=(wr .i64 (v19+(wr .i64 (x22.toNat:Int))));nx.1 ((x23,()),())
def Dz :Cut:=⟨⟨[(0,.c (.int .u64)),(2,.c (.int .i64))],[],[]⟩,[(.ret,⟨[(2,.c (.int .i64))],[],[]⟩)],λρ k v nx=>zo k v.1.1 v.1.2.1 nx⟩
def zn {ρ:Type}(k:Nat)(v14 v15:Int)(nx:(((T0×Unit)->Option ρ)×Unit)):Option ρ:=bif(decide (v14≥65536))then zo k (fy .u64 v14 16) (wr .i64 (v15+16)) (λx16:(T0×Unit)=>nx.1 ((x16.1.1,()),()),())else zo k v14 v15 (λx17:(T0×Unit)=>nx.1 ((x17.1.1,()),()),())
def Dy :Cut:=⟨⟨[(0,.c (.int .u64)),(2,.c (.int .i64))],[],[]⟩,[(.ret,⟨[(2,.c (.int .i64))],[],[]⟩)],λρ k v nx=>zn k v.1.1 v.1.2.1 nx⟩
def f200 (k:Nat)(a1:Int):Option (T0×Unit):=bif(decide (a1≥4294967296))then zn k (fy .u64 a1 32) 32 (λx12:(T0×Unit)=>some ((x12.1.1,()),()),())else zn k a1 0 (λx13:(T0×Unit)=>some ((x13.1.1,()),()),())
def Qo :af:=ee 200 [(0,.c (.int .u64))] [(0,.c (.int .i64))] λk v=>f200 k v.1.1
def I3 (k:Nat):Full:=fl k 25 [] (joins:=[(7,Dz),(4,Dy)])
theorem Oe (k:Nat):dh (I3 k) Dz (cY Tryz.f200 7):=λρ v nx=>by kernel_rfl
theorem Od (k:Nat):dh (I3 k) Dy (cY Tryz.f200 4):=λρ v nx=>by kernel_rfl
theorem Zc :SN Qo:=so Tryz.func200 I3 (λ_ _=>trivial) (λ_ _=>by kernel_rfl) (hob:=λk=>Eq.mpr (by kernel_rfl) (And.intro (Oe k) (And.intro (Od k) (trivial))))
def f142 (k:Nat)(a1:Int):Option (T0×Unit):=
 (f200 k a1).bind λx2=>
 some ((x2.1.1,()),())
def Il :af:=ee 142 [(0,.c (.int .u64))] [(0,.c (.int .i64))] λk v=>f142 k v.1.1
def Xf (k:Nat):Full:=fl k 8 [Qo]
theorem RV :SN Il:=so Tryz.func142 Xf (λ_ j=>⟨Zc.at j,trivial⟩) (λ_ _=>by kernel_rfl)
def f144 (k:Nat)(a1 a2 a3 a4:Int):Option (T0×Unit):=
 some (((wr .i64 ((wr .i64 (a1+a2))-a4)),()),())
def PS :af:=ee 144 [(0,.agg k0),(1,.c (.int .i64))] [(0,.c (.int .i64))] λk v=>f144 k v.1.1.1 v.1.1.2.1 v.1.1.2.2.1 v.1.2.1
def Xh (k:Nat):Full:=fl k 12 []
theorem YF :SN PS:=so Tryz.func144 Xh (λ_ _=>trivial) (λ_ _=>by kernel_rfl)
def f94 (k:Nat)(a1:T6)(a2:(List T5))(a3 a4:Int):Option (T0×Unit):=
 (aq a1 a4).bind λx6=>
 (aq a2 a3).bind λx7=>
 (f144 k x7.1 x7.2.1 x7.2.2 a4).bind λx8=>
 (aq a1 x8.1.1).bind λx9=>
 (f108 k x6.1.1 x6.1.2.1 x6.1.2.2 x6.2.1 x6.2.2.1 x6.2.2.2 x9.1.1 x9.1.2.1 x9.1.2.2 x9.2.1 x9.2.2.1 x9.2.2.2).bind λx10=>
 some ((x10.1.1,()),())
def MS :af:=ee 94 [(0,.agg k2),(1,.c (.int .i64)),(2,.c (.int .i64))] [(0,.c (.int .i64))] λk v=>f94 k v.1.1.1 v.1.1.2.1 v.1.2.1 v.1.2.2.1
def aau (k:Nat):Full:=fl k 24 [PS,qa]
theorem WA :SN MS:=so Tryz.func94 aau (λ_ j=>⟨YF.at j,te.at j,trivial⟩) (λ_ _=>by kernel_rfl)
def f92 (k:Nat)(a1 a2:Int)(a3:T7)(a4:Int):Option (T0×Unit):=
 (f94 k a3.1 a3.2 a1 a4).bind λx4=>
 (f94 k a3.1 a3.2 a2 a4).bind λx5=>
 (f93 k x4.1.1 x5.1.1).bind λx6=>
 some ((x6.1.1,()),())
def tV :af:=ee 92 [(0,.c (.int .i64)),(1,.c (.int .i64)),(2,.c (.dp u5)),(3,.c (.dp (.int .i64)))] [(0,.c (.int .i64))] λk v=>f92 k v.1.1 v.1.2.1 v.1.2.2.1 v.1.2.2.2.1
def aas (k:Nat):Full:=fl k 16 [MS,MR]
theorem xh :SN tV:=so Tryz.func92 aas (λ_ j=>⟨WA.at j,Wz.at j,trivial⟩) (λ_ _=>by kernel_rfl)
def me {ρ:Type}(k:Nat):Nat->Int->Int->T7->Int->Int->Int->(List Int)->(((T26×T12)->Option ρ)×Unit)->Option ρ|0,_,_,_,_,_,_,_,_=>none|j+1,v28,v29,v30,v31,v32,v33,v34,nx=>bif(decide (v33>v28))then bif decide (0≤v33)&&decide (v33<(v34.length:Int))then(v34[v33.toNat]?).bind λx38=>bif decide (0≤(wr .i64 (v33-1)))&&decide ((wr .i64 (v33-1))<(v34.length:Int))then(v34[(wr .i64 (v33-1)).toNat]?).bind λx39=>(f92 k x38 x39 v30 v31).bind λx40=>bif(decide (x40.1.1<0))then bif decide (0≤(wr .i64 (v33-1)))&&decide ((wr .i64 (v33-1))<(v34.length:Int))then(v34[(wr .i64 (v33-1)).toNat]?).bind λx41=>bif decide (0≤v33)&&decide (v33<(v34.length:Int))then(v34[v33.toNat]?).bind λx42=>bif decide (0≤v33)&&decide (v33<(v34.length:Int))then(v34[v33.toNat]?).bind λ_=>bif decide (0≤(wr .i64 (v33-1)))&&decide ((wr .i64 (v33-1))<((v34.set v33.toNat x41).length:Int))then((v34.set v33.toNat x41)[(wr .i64 (v33-1)).toNat]?).bind λ_=>let x45:(List Int):=((v34.set v33.toNat x41).set (wr .i64 (v33-1)).toNat x42);me k j v28 v29 v30 v31 v32 (wr .i64 (v33-1)) x45 nx else none else none else none else none else nx.1 (((),v28,v29,(((),v30),v31),v32,()),(v34,()))else none else none else nx.1 (((),v28,v29,(((),v30),v31),v32,()),(v34,()))
def Dl (k:Nat):Cut:=⟨⟨[(0,.c (.lit (.row 3000000))),(1,.c (.int .i64)),(2,.c (.int .i64)),(3,.c (.cap (.cap (.lit (.fn 92)) (.dp u5)) (.dp (.int .i64)))),(8,.c (.int .i64)),(9,.c (.int .i64))],[(3000000,.row 2 (.int .i64))],[(3000000,some 3000000)]⟩,[(.exit 2,⟨[(0,.c (.lit (.row 3000000))),(1,.c (.int .i64)),(2,.c (.int .i64)),(3,.c (.cap (.cap (.lit (.fn 92)) (.dp u5)) (.dp (.int .i64)))),(8,.c (.int .i64))],[(3000000,.row 2 (.int .i64))],[(3000000,some 3000000)]⟩)],λρ j v nx=>me k j v.1.2.1 v.1.2.2.1 v.1.2.2.2.1.1.2 v.1.2.2.2.1.2 v.1.2.2.2.2.1 v.1.2.2.2.2.2.1 v.2.1 nx⟩
def oE {ρ:Type}(k:Nat):Nat->Int->Int->T7->Int->Int->(List Int)->((T13->Option ρ)×Unit)->Option ρ|0,_,_,_,_,_,_,_=>none|j+1,v46,v47,v48,v49,v50,v51,nx=>bif(decide (v50<v47))then me k k v46 v47 v48 v49 v50 v50 v51 (λx52:(T26×T12)=>oE k j x52.1.2.1 x52.1.2.2.1 x52.1.2.2.2.1.1.2 x52.1.2.2.2.1.2 (wr .i64 (x52.1.2.2.2.2.1+1)) x52.2.1 nx,())else nx.1 ((),(v51,()))
def Dk (k:Nat):Cut:=⟨⟨[(0,.c (.lit (.row 3000000))),(1,.c (.int .i64)),(2,.c (.int .i64)),(3,.c (.cap (.cap (.lit (.fn 92)) (.dp u5)) (.dp (.int .i64)))),(8,.c (.int .i64))],[(3000000,.row 2 (.int .i64))],[(3000000,some 3000000)]⟩,[(.exit 0,⟨[],[(3000000,.row 2 (.int .i64))],[(3000000,some 3000000)]⟩)],λρ j v nx=>oE k j v.1.2.1 v.1.2.2.1 v.1.2.2.2.1.1.2 v.1.2.2.2.1.2 v.1.2.2.2.2.1 v.2.1 nx⟩
def f191 (k:Nat)(a1 a2:Int)(a3:T7)(a4:Int)(a5:(List Int)):Option T13:=
 oE k k a1 a2 a3 a4 (wr .i64 (a1+1)) a5
  (λx27:T13=>some ((),(x27.2.1,())),
  ())
def Qg :af:=⟨191,⟨[(0,.c (.row 3000000)),(1,.c (.int .i64)),(2,.c (.int .i64)),(3,.c (.cap (.cap (.lit (.fn 92)) (.dp u5)) (.dp (.int .i64))))],[(3000000,.row 2 (.int .i64))],[]⟩,⟨[],[(3000000,.row 2 (.int .i64))],[(3000000,some 3000000)]⟩,λk v=>f191 k v.1.2.1 v.1.2.2.1 v.1.2.2.2.1.1.2 v.1.2.2.2.1.2 v.2.1⟩
def I0 (k:Nat):Full:=fl k 53 [tV] (cuts:=[(4,(Dl k)),(1,(Dk k))]) (touch:=[(6,[(15,[3000000]),(17,[3000000])])])
theorem N1 (k:Nat):aF (I0 k) (Dl k) (au Tryz.f191 4):=λρ v nx=>⟨by kernel_rfl,λj=>by kernel_rfl⟩
theorem N0 (k:Nat):aF (I0 k) (Dk k) (au Tryz.f191 1):=λρ v nx=>⟨by kernel_rfl,λj=>by kernel_rfl⟩
theorem Y4 :SN Qg:=so Tryz.func191 I0 (λ_ j=>⟨xh.at j,trivial⟩) (λ_ _=>by kernel_rfl) (hob:=λk=>Eq.mpr (by kernel_rfl) (And.intro (N1 k) (And.intro (N0 k) (trivial))))
def my {ρ:Type}(k:Nat)(v72 v73:Int)(v74:T7)(v75 v76 v77:Int)(v78:(List Int))(nx:(((T26×T12)->Option ρ)×(T13->Option ρ)×Unit)):Option ρ:=bif decide (0≤(wr .i64 (v73+v76)))&&decide ((wr .i64 (v73+v76))<(v78.length:Int))then(v78[(wr .i64 (v73+v76)).toNat]?).bind λx82=>bif decide (0≤(wr .i64 (v73+v77)))&&decide ((wr .i64 (v73+v77))<(v78.length:Int))then(v78[(wr .i64 (v73+v77)).toNat]?).bind λx83=>(f92 k x82 x83 v74 v75).bind λx84=>bif(!(decide (x84.1.1<0)))then nx.2.1 ((),(v78,()))else bif decide (0≤(wr .i64 (v73+v77)))&&decide ((wr .i64 (v73+v77))<(v78.length:Int))then(v78[(wr .i64 (v73+v77)).toNat]?).bind λx85=>bif decide (0≤(wr .i64 (v73+v76)))&&decide ((wr .i64 (v73+v76))<(v78.length:Int))then(v78[(wr .i64 (v73+v76)).toNat]?).bind λx86=>bif decide (0≤(wr .i64 (v73+v76)))&&decide ((wr .i64 (v73+v76))<(v78.length:Int))then(v78[(wr .i64 (v73+v76)).toNat]?).bind λ_=>bif decide (0≤(wr .i64 (v73+v77)))&&decide ((wr .i64 (v73+v77))<((v78.set (wr .i64 (v73+v76)).toNat x85).length:Int))then((v78.set (wr .i64 (v73+v76)).toNat x85)[(wr .i64 (v73+v77)).toNat]?).bind λ_=>let x89:(List Int):=((v78.set (wr .i64 (v73+v76)).toNat x85).set (wr .i64 (v73+v77)).toNat x86);nx.1 (((),v72,v73,(((),v74),v75),v77,()),(x89,()))else none else none else none else none else none else none
def DJ :Cut:=⟨⟨[(0,.c (.lit (.row 3000000))),(2,.c (.int .i64)),(3,.c (.int .i64)),(4,.c (.cap (.cap (.lit (.fn 92)) (.dp u5)) (.dp (.int .i64)))),(10,.c (.int .i64)),(11,.c (.int .i64))],[(3000000,.row 2 (.int .i64))],[(3000000,some 3000000)]⟩,[(.normal,⟨[(0,.c (.lit (.row 3000000))),(2,.c (.int .i64)),(3,.c (.int .i64)),(4,.c (.cap (.cap (.lit (.fn 92)) (.dp u5)) (.dp (.int .i64)))),(10,.c (.int .i64))],[(3000000,.row 2 (.int .i64))],[(3000000,some 3000000)]⟩),(.ret,⟨[],[(3000000,.row 2 (.int .i64))],[(3000000,some 3000000)]⟩)],λρ k v nx=>my k v.1.2.1 v.1.2.2.1 v.1.2.2.2.1.1.2 v.1.2.2.2.1.2 v.1.2.2.2.2.1 v.1.2.2.2.2.2.1 v.2.1 nx⟩
def kr {ρ:Type}(k:Nat):Nat->Int->Int->T7->Int->Int->(List Int)->((T13->Option ρ)×(T13->Option ρ)×Unit)->Option ρ|0,_,_,_,_,_,_,_=>none|j+1,v51,v52,v53,v54,v55,v56,nx=>let x58:Bool:=(decide ((wr .i64 ((wr .i64 (2*v55))+1))≥v51));bif x58 then nx.1 ((),(v56,()))else let x59:Int:=(wr .i64 ((wr .i64 ((wr .i64 (2*v55))+1))+1));bif(decide (x59<v51))then let x60:Int:=(wr .i64 (v52+(wr .i64 ((wr .i64 (2*v55))+1))));bif decide (0≤x60)&&decide (x60<(v56.length:Int))then(v56[x60.toNat]?).bind λx61=>let x62:Int:=(wr .i64 (v52+(wr .i64 ((wr .i64 (2*v55))+1))));bif decide (0≤(wr .i64 (x62+1)))&&decide ((wr .i64 (x62+1))<(v56.length:Int))then(v56[(wr .i64 (x62+1)).toNat]?).bind λx63=>(f92 k x61 x63 v53 v54).bind λx64=>bif(decide (x64.1.1<0))then let x65:Int:=(wr .i64 ((wr .i64 ((wr .i64 (2*v55))+1))+1));my k v51 v52 v53 v54 v55 x65 v56 (λx66:(T26×T12)=>kr k j x66.1.2.1 x66.1.2.2.1 x66.1.2.2.2.1.1.2 x66.1.2.2.2.1.2 x66.1.2.2.2.2.1 x66.2.1 nx,λx67:T13=>nx.2.1 ((),(x67.2.1,())),())else my k v51 v52 v53 v54 v55 (wr .i64 ((wr .i64 (2*v55))+1)) v56 (λx68:(T26×T12)=>kr k j x68.1.2.1 x68.1.2.2.1 x68.1.2.2.2.1.1.2 x68.1.2.2.2.1.2 x68.1.2.2.2.2.1 x68.2.1 nx,λx69:T13=>nx.2.1 ((),(x69.2.1,())),())else none else none else my k v51 v52 v53 v54 v55 (wr .i64 ((wr .i64 (2*v55))+1)) v56 (λx70:(T26×T12)=>kr k j x70.1.2.1 x70.1.2.2.1 x70.1.2.2.2.1.1.2 x70.1.2.2.2.1.2 x70.1.2.2.2.2.1 x70.2.1 nx,λx71:T13=>nx.2.1 ((),(x71.2.1,())),())
def DK (k:Nat):Cut:=⟨⟨[(0,.c (.lit (.row 3000000))),(2,.c (.int .i64)),(3,.c (.int .i64)),(4,.c (.cap (.cap (.lit (.fn 92)) (.dp u5)) (.dp (.int .i64)))),(10,.c (.int .i64))],[(3000000,.row 2 (.int .i64))],[(3000000,some 3000000)]⟩,[(.exit 0,⟨[],[(3000000,.row 2 (.int .i64))],[(3000000,some 3000000)]⟩),(.ret,⟨[],[(3000000,.row 2 (.int .i64))],[(3000000,some 3000000)]⟩)],λρ j v nx=>kr k j v.1.2.1 v.1.2.2.1 v.1.2.2.2.1.1.2 v.1.2.2.2.1.2 v.1.2.2.2.2.1 v.2.1 nx⟩
def f223 (k:Nat)(a1 a2 a3:Int)(a4:T7)(a5:Int)(a6:(List Int)):Option T13:=
 kr k k a2 a3 a4 a5 a1 a6
  (λx49:T13=>some ((),(x49.2.1,())),
  λx50:T13=>some ((),(x50.2.1,())),
  ())
def QD :af:=⟨223,⟨[(0,.c (.row 3000000)),(1,.c (.int .i64)),(2,.c (.int .i64)),(3,.c (.int .i64)),(4,.c (.cap (.cap (.lit (.fn 92)) (.dp u5)) (.dp (.int .i64))))],[(3000000,.row 2 (.int .i64))],[]⟩,⟨[],[(3000000,.row 2 (.int .i64))],[(3000000,some 3000000)]⟩,λk v=>f223 k v.1.2.1 v.1.2.2.1 v.1.2.2.2.1 v.1.2.2.2.2.1.1.2 v.1.2.2.2.2.1.2 v.2.1⟩
def I8 (k:Nat):Full:=fl k 82 [tV] (cuts:=[(1,(DK k))]) (joins:=[(5,DJ)]) (touch:=[(6,[(21,[3000000]),(23,[3000000])])])
theorem Oq (k:Nat):dh (I8 k) DJ (cY Tryz.f223 5):=λρ v nx=>by kernel_rfl
theorem Ot (k:Nat):aF (I8 k) (DK k) (au Tryz.f223 1):=λρ v nx=>⟨by kernel_rfl,λj=>by kernel_rfl⟩
theorem Zr :SN QD:=so Tryz.func223 I8 (λ_ j=>⟨xh.at j,trivial⟩) (λ_ _=>by kernel_rfl) (hob:=λk=>Eq.mpr (by kernel_rfl) (And.intro (Oq k) (And.intro (Ot k) (trivial))))
def oF {ρ:Type}(k:Nat):Nat->T7->Int->Int->Int->Int->Int->(List Int)->((((Unit×T14×Int×Int×Int×Unit)×T12)->Option ρ)×Unit)->Option ρ|0,_,_,_,_,_,_,_,_=>none|j+1,v31,v32,v33,v34,v35,v36,v37,nx=>bif(decide (v36≥0))then(f223 k v36 v35 v33 v31 v32 v37).bind λx38=>oF k j v31 v32 v33 v34 v35 (wr .i64 (v36-1)) x38.2.1 nx else nx.1 (((),(((),v31),v32),v33,v34,v35,()),(v37,()))
def Dm (k:Nat):Cut:=⟨⟨[(0,.c (.lit (.row 3000000))),(3,.c (.cap (.cap (.lit (.fn 92)) (.dp u5)) (.dp (.int .i64)))),(8,.c (.int .i64)),(9,.c (.int .i64)),(10,.c (.int .i64)),(11,.c (.int .i64))],[(3000000,.row 2 (.int .i64))],[(3000000,some 3000000)]⟩,[(.exit 0,⟨[(0,.c (.lit (.row 3000000))),(3,.c (.cap (.cap (.lit (.fn 92)) (.dp u5)) (.dp (.int .i64)))),(8,.c (.int .i64)),(9,.c (.int .i64)),(10,.c (.int .i64))],[(3000000,.row 2 (.int .i64))],[(3000000,some 3000000)]⟩)],λρ j v nx=>oF k j v.1.2.1.1.2 v.1.2.1.2 v.1.2.2.1 v.1.2.2.2.1 v.1.2.2.2.2.1 v.1.2.2.2.2.2.1 v.2.1 nx⟩
def ko {ρ:Type}(k:Nat):Nat->T7->Int->Int->Int->Int->(List Int)->((T13->Option ρ)×Unit)->Option ρ|0,_,_,_,_,_,_,_=>none|j+1,v39,v40,v41,v42,v43,v44,nx=>bif(decide (v43≥0))then bif decide (0≤(wr .i64 (v41+v43)))&&decide ((wr .i64 (v41+v43))<(v44.length:Int))then(v44[(wr .i64 (v41+v43)).toNat]?).bind λx45=>bif decide (0≤v41)&&decide (v41<(v44.length:Int))then(v44[v41.toNat]?).bind λx46=>bif decide (0≤v41)&&decide (v41<(v44.length:Int))then(v44[v41.toNat]?).bind λ_=>bif decide (0≤(wr .i64 (v41+v43)))&&decide ((wr .i64 (v41+v43))<((v44.set v41.toNat x45).length:Int))then((v44.set v41.toNat x45)[(wr .i64 (v41+v43)).toNat]?).bind λ_=>let x49:(List Int):=((v44.set v41.toNat x45).set (wr .i64 (v41+v43)).toNat x46);(f223 k v42 v43 v41 v39 v40 x49).bind λx50=>ko k j v39 v40 v41 v42 (wr .i64 (v43-1)) x50.2.1 nx else none else none else none else none else nx.1 ((),(v44,()))
def Dp (k:Nat):Cut:=⟨⟨[(0,.c (.lit (.row 3000000))),(3,.c (.cap (.cap (.lit (.fn 92)) (.dp u5)) (.dp (.int .i64)))),(8,.c (.int .i64)),(9,.c (.int .i64)),(12,.c (.int .i64))],[(3000000,.row 2 (.int .i64))],[(3000000,some 3000000)]⟩,[(.exit 2,⟨[],[(3000000,.row 2 (.int .i64))],[(3000000,some 3000000)]⟩)],λρ j v nx=>ko k j v.1.2.1.1.2 v.1.2.1.2 v.1.2.2.1 v.1.2.2.2.1 v.1.2.2.2.2.1 v.2.1 nx⟩
def f192 (k:Nat)(a1 a2:Int)(a3:T7)(a4:Int)(a5:(List Int)):Option T13:=
 let x28:Int:=(wr .i64 ((wr .i64 ((wr .i64 (a2-a1))-1)).tdiv 2))
 oF k k a3 a4 a1 0 (wr .i64 (a2-a1)) x28 a5
  (λx29:((Unit×T14×Int×Int×Int×Unit)×T12)=>
   ko k k x29.1.2.1.1.2 x29.1.2.1.2 x29.1.2.2.1 x29.1.2.2.2.1 (wr .i64 (x29.1.2.2.2.2.1-1)) x29.2.1
    (λx30:T13=>some ((),(x30.2.1,())),
    ()),
  ())
def Qh :af:=⟨192,⟨[(0,.c (.row 3000000)),(1,.c (.int .i64)),(2,.c (.int .i64)),(3,.c (.cap (.cap (.lit (.fn 92)) (.dp u5)) (.dp (.int .i64))))],[(3000000,.row 2 (.int .i64))],[]⟩,⟨[],[(3000000,.row 2 (.int .i64))],[(3000000,some 3000000)]⟩,λk v=>f192 k v.1.2.1 v.1.2.2.1 v.1.2.2.2.1.1.2 v.1.2.2.2.1.2 v.2.1⟩
def I1 (k:Nat):Full:=fl k 60 [QD] (cuts:=[(4,(Dm k)),(8,(Dp k))]) (touch:=[(10,[(17,[3000000]),(19,[3000000])])])
theorem N2 (k:Nat):aF (I1 k) (Dm k) (au Tryz.f192 4):=λρ v nx=>⟨by kernel_rfl,λj=>by kernel_rfl⟩
theorem N4 (k:Nat):aF (I1 k) (Dp k) (au Tryz.f192 8):=λρ v nx=>⟨by kernel_rfl,λj=>by kernel_rfl⟩
theorem Y5 :SN Qh:=so Tryz.func192 I1 (λ_ j=>⟨Zr.at j,trivial⟩) (λ_ _=>by kernel_rfl) (hob:=λk=>Eq.mpr (by kernel_rfl) (And.intro (N2 k) (And.intro (N4 k) (trivial))))
def f224 (k:Nat)(a1:Int):Option (T0×Unit):=(f142 k (wr .u64 a1)).bind λx2=>bif decide (x2.1.1<0)then none else some (((fe .u64 1 x2.1.1),()),())
def QE :af:=ee 224 [(0,.c (.int .i64))] [(0,.c (.int .u64))] λk v=>f224 k v.1.1
def X5 (k:Nat):Full:=fl k 7 [Il]
theorem Zs :SN QE:=so Tryz.func224 X5 (λ_ j=>⟨RV.at j,trivial⟩) (λ_ _=>by kernel_rfl)
def f225 (k:Nat)(a1:Int):Option (T0×(T0×Unit)):=
 let x3:Int:=(fy .u64 (w9 .u64 a1 (fe .u64 a1 13)) 7)
 let x4:Int:=(w9 .u64 (w9 .u64 a1 (fe .u64 a1 13)) x3)
 some (((w9 .u64 x4 (fe .u64 x4 17)),()),(((w9 .u64 x4 (fe .u64 x4 17)),()),()))
def QF :af:=⟨225,⟨[(0,.c (.box 3000000))],[(3000000,.box 237 k6)],[]⟩,⟨[(0,.c (.int .u64))],[(3000000,.box 237 k6)],[(3000000,some 3000000)]⟩,λk v=>f225 k v.2.1.1⟩
def X6 (k:Nat):Full:=fl k 33 [] (touch:=[(1,[(9,[3000000])]),(2,[(9,[3000000])]),(3,[(9,[3000000])])])
theorem Zt :SN QF:=so Tryz.func225 X6 (λ_ _=>trivial) (λ_ _=>by kernel_rfl)
def pd {ρ:Type}(k:Nat)(v43 v44 v45 v46 v47:Int)(v48:(List Int))(v49:Int)(nx:((((Unit×Int×Int×Unit×Int×Int×Unit)×((List Int)×T0×Unit))->Option ρ)×Unit)):Option ρ:=bif decide (0≤(wr .i64 (v43+v47)))&&decide ((wr .i64 (v43+v47))<(v48.length:Int))then(v48[(wr .i64 (v43+v47)).toNat]?).bind λx50=>bif decide (0≤v46)&&decide (v46<(v48.length:Int))then(v48[v46.toNat]?).bind λx51=>bif decide (0≤v46)&&decide (v46<(v48.length:Int))then(v48[v46.toNat]?).bind λ_=>bif decide (0≤(wr .i64 (v43+v47)))&&decide ((wr .i64 (v43+v47))<((v48.set v46.toNat x50).length:Int))then((v48.set v46.toNat x50)[(wr .i64 (v43+v47)).toNat]?).bind λ_=>let x54:(List Int):=((v48.set v46.toNat x50).set (wr .i64 (v43+v47)).toNat x51);nx.1 (((),v43,v44,(),v45,v46,()),(x54,(v49,()),()))else none else none else none else none
def An :Cut:=⟨⟨[(0,.c (.lit (.row 3000000))),(1,.c (.int .i64)),(8,.c (.int .i64)),(9,.c (.box 5000000)),(10,.c (.int .u64)),(11,.c (.int .i64)),(12,.c (.int .i64))],[(3000000,.row 2 (.int .i64)),(5000000,.box 237 k6)],[(3000000,some 3000000)]⟩,[(.normal,⟨[(0,.c (.lit (.row 3000000))),(1,.c (.int .i64)),(8,.c (.int .i64)),(9,.c (.box 5000000)),(10,.c (.int .u64)),(11,.c (.int .i64))],[(3000000,.row 2 (.int .i64)),(5000000,.box 237 k6)],[(3000000,some 3000000)]⟩)],λρ k v nx=>pd k v.1.2.1 v.1.2.2.1 v.1.2.2.2.2.1 v.1.2.2.2.2.2.1 v.1.2.2.2.2.2.2.1 v.2.1 v.2.2.1.1 nx⟩
def kq {ρ:Type}(k:Nat):Nat->Int->Int->Int->Int->(List Int)->Int->((T13->Option ρ)×Unit)->Option ρ|0,_,_,_,_,_,_,_=>none|j+1,v31,v32,v33,v34,v35,v36,nx=>let x38:Int:=(wr .i64 (v31+(wr .i64 ((wr .i64 (v32.tdiv 4))*2))));bif(decide (v34≤(wr .i64 (x38+1))))then(f225 k v36).bind λx39=>let x40:Int:=(wr .i64 (fc .u64 x39.1.1 (wr .u64 (v33-1))));bif(decide (x40≥v32))then pd k v31 v32 v33 v34 (wr .i64 (x40-v32)) v35 x39.2.1.1 (λx41:((Unit×Int×Int×Unit×Int×Int×Unit)×((List Int)×T0×Unit))=>kq k j x41.1.2.1 x41.1.2.2.1 x41.1.2.2.2.2.1 (wr .i64 (x41.1.2.2.2.2.2.1+1)) x41.2.1 x41.2.2.1.1 nx,())else pd k v31 v32 v33 v34 x40 v35 x39.2.1.1 (λx42:((Unit×Int×Int×Unit×Int×Int×Unit)×((List Int)×T0×Unit))=>kq k j x42.1.2.1 x42.1.2.2.1 x42.1.2.2.2.2.1 (wr .i64 (x42.1.2.2.2.2.2.1+1)) x42.2.1 x42.2.2.1.1 nx,())else nx.1 ((),(v35,()))
def Dq (k:Nat):Cut:=⟨⟨[(0,.c (.lit (.row 3000000))),(1,.c (.int .i64)),(8,.c (.int .i64)),(9,.c (.box 5000000)),(10,.c (.int .u64)),(11,.c (.int .i64))],[(3000000,.row 2 (.int .i64)),(5000000,.box 237 k6)],[(3000000,some 3000000)]⟩,[(.exit 0,⟨[],[(3000000,.row 2 (.int .i64))],[(3000000,some 3000000)]⟩)],λρ j v nx=>kq k j v.1.2.1 v.1.2.2.1 v.1.2.2.2.2.1 v.1.2.2.2.2.2.1 v.2.1 v.2.2.1.1 nx⟩
def f193 (k:Nat)(a1 a2:Int)(a3:T7)(a4:Int)(a5:(List Int)):Option T13:=bif(decide ((wr .i64 (a2-a1))≥8))then(f224 k (wr .i64 (a2-a1))).bind λx28=>let x29:Int:=(wr .i64 ((wr .i64 ((wr .i64 (a2-a1)).tdiv 4))*2));kq k k a1 (wr .i64 (a2-a1)) x28.1.1 (wr .i64 ((wr .i64 (a1+x29))-1)) a5 (wr .u64 (wr .i64 (a2-a1))) (λx30:T13=>some ((),(x30.2.1,())),())else some ((),(a5,()))
def Qi :af:=⟨193,⟨[(0,.c (.row 3000000)),(1,.c (.int .i64)),(2,.c (.int .i64)),(3,.c (.cap (.cap (.lit (.fn 92)) (.dp u5)) (.dp (.int .i64))))],[(3000000,.row 2 (.int .i64))],[]⟩,⟨[],[(3000000,.row 2 (.int .i64))],[(3000000,some 3000000)]⟩,λk v=>f193 k v.1.2.1 v.1.2.2.1 v.1.2.2.2.1.1.2 v.1.2.2.2.1.2 v.2.1⟩
def I2 (k:Nat):Full:=fl k 67 [QE,QF] (cuts:=[(5,(Dq k))]) (joins:=[(10,An)]) (touch:=[(10,[(17,[3000000]),(19,[3000000])])])
theorem Lk (k:Nat):dh (I2 k) An (cY Tryz.f193 10):=λρ v nx=>by kernel_rfl
theorem N5 (k:Nat):aF (I2 k) (Dq k) (au Tryz.f193 5):=λρ v nx=>⟨by kernel_rfl,λj=>by kernel_rfl⟩
theorem Y6 :SN Qi:=so Tryz.func193 I2 (λ_ j=>⟨Zs.at j,Zt.at j,trivial⟩) (λ_ _=>by kernel_rfl) (hob:=λk=>Eq.mpr (by kernel_rfl) (And.intro (Lk k) (And.intro (N5 k) (trivial))))
def f240 (k:Nat)(a1:(List Int))(a2 a3:Int)(a4:T7)(a5 a6:Int):Option (T4×(T0×Unit)):=(aq a1 a3).bind λx4=>(aq a1 a2).bind λx5=>(f92 k x4 x5 a4 a5).bind λx6=>bif(decide (x6.1.1<0))then some ((a3,a2,()),(((wr .i64 (a6+1)),()),()))else some ((a2,a3,()),((a6,()),()))
def QR :af:=⟨240,⟨[(0,.c (.sl (.int .i64))),(1,.c (.int .i64)),(2,.c (.int .i64)),(3,.c (.box 3000000)),(4,.c (.cap (.cap (.lit (.fn 92)) (.dp u5)) (.dp (.int .i64))))],[(3000000,.box 3 k4)],[]⟩,⟨[(0,.c (.int .i64)),(1,.c (.int .i64))],[(3000000,.box 3 k4)],[(3000000,some 3000000)]⟩,λk v=>f240 k v.1.1 v.1.2.1 v.1.2.2.1 v.1.2.2.2.2.1.1.2 v.1.2.2.2.2.1.2 v.2.1.1⟩
def Yf (k:Nat):Full:=fl k 32 [tV]
theorem ZF :SN QR:=so Tryz.func240 Yf (λ_ j=>⟨xh.at j,trivial⟩) (λ_ _=>by kernel_rfl)
def f227 (k:Nat)(a1:(List Int))(a2 a3 a4:Int)(a5:T7)(a6 a7:Int):Option (T0×(T0×Unit)):=
 (f240 k a1 a2 a3 a5 a6 a7).bind λx4=>
 (f240 k a1 x4.1.2.1 a4 a5 a6 x4.2.1.1).bind λx5=>
 (f240 k a1 x4.1.1 x5.1.1 a5 a6 x5.2.1.1).bind λx6=>
 some ((x6.1.2.1,()),((x6.2.1.1,()),()))
def ID :af:=⟨227,⟨[(0,.c (.sl (.int .i64))),(1,.c (.int .i64)),(2,.c (.int .i64)),(3,.c (.int .i64)),(4,.c (.box 3000000)),(5,.c (.cap (.cap (.lit (.fn 92)) (.dp u5)) (.dp (.int .i64))))],[(3000000,.box 3 k4)],[]⟩,⟨[(0,.c (.int .i64))],[(3000000,.box 3 k4)],[(3000000,some 3000000)]⟩,λk v=>f227 k v.1.1 v.1.2.1 v.1.2.2.1 v.1.2.2.2.1 v.1.2.2.2.2.2.1.1.2 v.1.2.2.2.2.2.1.2 v.2.1.1⟩
def X8 (k:Nat):Full:=fl k 41 [QR]
theorem Sd :SN ID:=so Tryz.func227 X8 (λ_ j=>⟨ZF.at j,trivial⟩) (λ_ _=>by kernel_rfl)
def f226 (k:Nat)(a1:(List Int))(a2:Int)(a3:T7)(a4 a5:Int):Option (T0×(T0×Unit)):=
 (f227 k a1 (wr .i64 (a2-1)) a2 (wr .i64 (a2+1)) a3 a4 a5).bind λx2=>
 some ((x2.1.1,()),((x2.2.1.1,()),()))
def QG :af:=⟨226,⟨[(0,.c (.sl (.int .i64))),(1,.c (.int .i64)),(2,.c (.box 3000000)),(3,.c (.cap (.cap (.lit (.fn 92)) (.dp u5)) (.dp (.int .i64))))],[(3000000,.box 3 k4)],[]⟩,⟨[(0,.c (.int .i64))],[(3000000,.box 3 k4)],[(3000000,some 3000000)]⟩,λk v=>f226 k v.1.1 v.1.2.1 v.1.2.2.2.1.1.2 v.1.2.2.2.1.2 v.2.1.1⟩
def X7 (k:Nat):Full:=fl k 18 [ID]
theorem Zu :SN QG:=so Tryz.func226 X7 (λ_ j=>⟨Sd.at j,trivial⟩) (λ_ _=>by kernel_rfl)
def mf {ρ:Type}(k:Nat)(v30 v31:Int)(nx:(((T4×Unit)->Option ρ)×Unit)):Option ρ:=bif(v31==0)then nx.1 ((v30,1,()),())else bif(v31==12)then nx.1 ((v30,2,()),())else nx.1 ((v30,0,()),())
def Ao :Cut:=⟨⟨[(11,.c (.box 5000000)),(13,.c (.int .i64))],[(5000000,.box 3 k4)],[]⟩,[(.ret,⟨[(8,.c (.int .i64)),(9,.c (.int .i64))],[],[]⟩)],λρ k v nx=>mf k v.1.2.1 v.2.1.1 nx⟩
def f194 (k:Nat)(a1:(List Int))(a2 a3:Int)(a4:T7)(a5:Int):Option (T4×Unit):=let x19:Int:=(wr .i64 ((wr .i64 ((wr .i64 (a3-a2)).tdiv 4))*1));let x20:Int:=(wr .i64 ((wr .i64 ((wr .i64 (a3-a2)).tdiv 4))*2));let x21:Int:=(wr .i64 ((wr .i64 ((wr .i64 (a3-a2)).tdiv 4))*3));bif(decide ((wr .i64 (a3-a2))≥8))then bif(decide ((wr .i64 (a3-a2))≥50))then(f226 k a1 (wr .i64 (a2+x19)) a4 a5 0).bind λx22=>(f226 k a1 (wr .i64 (a2+x20)) a4 a5 x22.2.1.1).bind λx23=>(f226 k a1 (wr .i64 (a2+x21)) a4 a5 x23.2.1.1).bind λx24=>(f227 k a1 x22.1.1 x23.1.1 x24.1.1 a4 a5 x24.2.1.1).bind λx25=>mf k x25.1.1 x25.2.1.1 (λx26:(T4×Unit)=>some ((x26.1.1,x26.1.2.1,()),()),())else(f227 k a1 (wr .i64 (a2+x19)) (wr .i64 (a2+x20)) (wr .i64 (a2+x21)) a4 a5 0).bind λx27=>mf k x27.1.1 x27.2.1.1 (λx28:(T4×Unit)=>some ((x28.1.1,x28.1.2.1,()),()),())else mf k (wr .i64 (a2+x20)) 0 (λx29:(T4×Unit)=>some ((x29.1.1,x29.1.2.1,()),()),())
def Qj :af:=ee 194 [(0,.c (.sl (.int .i64))),(1,.c (.int .i64)),(2,.c (.int .i64)),(3,.c (.cap (.cap (.lit (.fn 92)) (.dp u5)) (.dp (.int .i64))))] [(0,.c (.int .i64)),(1,.c (.int .i64))] λk v=>f194 k v.1.1 v.1.2.1 v.1.2.2.1 v.1.2.2.2.1.1.2 v.1.2.2.2.1.2
def Rm (k:Nat):Full:=fl k 63 [QG,ID] (joins:=[(12,Ao)])
theorem Ll (k:Nat):dh (Rm k) Ao (cY Tryz.f194 12):=λρ v nx=>by kernel_rfl
theorem Y7 :SN Qj:=so Tryz.func194 Rm (λ_ j=>⟨Zu.at j,Sd.at j,trivial⟩) (λ_ _=>by kernel_rfl) (hob:=λk=>Eq.mpr (by kernel_rfl) (And.intro (Ll k) (trivial)))
def oG {ρ:Type}(k:Nat):Nat->Int->Int->(List Int)->((T13->Option ρ)×Unit)->Option ρ|0,_,_,_,_=>none|j+1,v10,v11,v12,nx=>bif(decide (v10<v11))then bif decide (0≤v11)&&decide (v11<(v12.length:Int))then(v12[v11.toNat]?).bind λx13=>bif decide (0≤v10)&&decide (v10<(v12.length:Int))then(v12[v10.toNat]?).bind λx14=>bif decide (0≤v10)&&decide (v10<(v12.length:Int))then(v12[v10.toNat]?).bind λ_=>bif decide (0≤v11)&&decide (v11<((v12.set v10.toNat x13).length:Int))then((v12.set v10.toNat x13)[v11.toNat]?).bind λ_=>oG k j (wr .i64 (v10+1)) (wr .i64 (v11-1)) ((v12.set v10.toNat x13).set v11.toNat x14) nx else none else none else none else none else nx.1 ((),(v12,()))
def Dr (k:Nat):Cut:=⟨⟨[(0,.c (.lit (.row 3000000))),(8,.c (.int .i64)),(9,.c (.int .i64))],[(3000000,.row 2 (.int .i64))],[(3000000,some 3000000)]⟩,[(.exit 0,⟨[],[(3000000,.row 2 (.int .i64))],[(3000000,some 3000000)]⟩)],λρ j v nx=>oG k j v.1.2.1 v.1.2.2.1 v.2.1 nx⟩
def f195 (k:Nat)(a1 a2:Int)(a3:T7)(a4:Int)(a5:(List Int)):Option T13:=
 oG k k a1 (wr .i64 (a2-1)) a5
  (λx9:T13=>some ((),(x9.2.1,())),
  ())
def Qk :af:=⟨195,⟨[(0,.c (.row 3000000)),(1,.c (.int .i64)),(2,.c (.int .i64)),(3,.c (.cap (.cap (.lit (.fn 92)) (.dp u5)) (.dp (.int .i64))))],[(3000000,.row 2 (.int .i64))],[]⟩,⟨[],[(3000000,.row 2 (.int .i64))],[(3000000,some 3000000)]⟩,λk v=>f195 k v.1.2.1 v.1.2.2.1 v.1.2.2.2.1.1.2 v.1.2.2.2.1.2 v.2.1⟩
def Rn (k:Nat):Full:=fl k 34 [] (cuts:=[(2,(Dr k))]) (touch:=[(3,[(13,[3000000]),(15,[3000000])])])
theorem N6 (k:Nat):aF (Rn k) (Dr k) (au Tryz.f195 2):=λρ v nx=>⟨by kernel_rfl,λj=>by kernel_rfl⟩
theorem Y8 :SN Qk:=so Tryz.func195 Rn (λ_ _=>trivial) (λ_ _=>by kernel_rfl) (hob:=λk=>Eq.mpr (by kernel_rfl) (And.intro (N6 k) (trivial)))
def oH {ρ:Type}(k:Nat):Nat->Int->Int->T7->Int->Int->Int->(List Int)->(((T29×T12)->Option ρ)×Unit)->Option ρ|0,_,_,_,_,_,_,_,_=>none|j+1,v83,v84,v85,v86,v87,v88,v89,nx=>bif(decide (v87<v84))then bif decide (0≤v87)&&decide (v87<(v89.length:Int))then(v89[v87.toNat]?).bind λx90=>bif decide (0≤(wr .i64 (v87-1)))&&decide ((wr .i64 (v87-1))<(v89.length:Int))then(v89[(wr .i64 (v87-1)).toNat]?).bind λx91=>(f92 k x90 x91 v85 v86).bind λx92=>bif(!(decide (x92.1.1<0)))then oH k j v83 v84 v85 v86 (wr .i64 (v87+1)) v88 v89 nx else nx.1 (((),v83,v84,(((),v85),v86),v87,v88,()),(v89,()))else none else none else nx.1 (((),v83,v84,(((),v85),v86),v87,v88,()),(v89,()))
def Dt (k:Nat):Cut:=⟨⟨[(0,.c (.lit (.row 3000000))),(1,.c (.int .i64)),(2,.c (.int .i64)),(3,.c (.cap (.cap (.lit (.fn 92)) (.dp u5)) (.dp (.int .i64)))),(9,.c (.int .i64)),(10,.c (.int .i64))],[(3000000,.row 2 (.int .i64))],[(3000000,some 3000000)]⟩,[(.exit 2,⟨[(0,.c (.lit (.row 3000000))),(1,.c (.int .i64)),(2,.c (.int .i64)),(3,.c (.cap (.cap (.lit (.fn 92)) (.dp u5)) (.dp (.int .i64)))),(9,.c (.int .i64)),(10,.c (.int .i64))],[(3000000,.row 2 (.int .i64))],[(3000000,some 3000000)]⟩)],λρ j v nx=>oH k j v.1.2.1 v.1.2.2.1 v.1.2.2.2.1.1.2 v.1.2.2.2.1.2 v.1.2.2.2.2.1 v.1.2.2.2.2.2.1 v.2.1 nx⟩
def iW {ρ:Type}(k:Nat):Nat->Int->Int->T7->Int->Int->Int->Int->(List Int)->(((T29×T12)->Option ρ)×Unit)->Option ρ|0,_,_,_,_,_,_,_,_,_=>none|j+1,v93,v94,v95,v96,v97,v98,v99,v100,nx=>bif(decide (v99≥1))then bif decide (0≤v99)&&decide (v99<(v100.length:Int))then(v100[v99.toNat]?).bind λx104=>bif decide (0≤(wr .i64 (v99-1)))&&decide ((wr .i64 (v99-1))<(v100.length:Int))then(v100[(wr .i64 (v99-1)).toNat]?).bind λx105=>(f92 k x104 x105 v95 v96).bind λx106=>bif(!(decide (x106.1.1<0)))then nx.1 (((),v93,v94,(((),v95),v96),v97,v98,()),(v100,()))else bif decide (0≤(wr .i64 (v99-1)))&&decide ((wr .i64 (v99-1))<(v100.length:Int))then(v100[(wr .i64 (v99-1)).toNat]?).bind λx107=>bif decide (0≤v99)&&decide (v99<(v100.length:Int))then(v100[v99.toNat]?).bind λx108=>bif decide (0≤v99)&&decide (v99<(v100.length:Int))then(v100[v99.toNat]?).bind λ_=>bif decide (0≤(wr .i64 (v99-1)))&&decide ((wr .i64 (v99-1))<((v100.set v99.toNat x107).length:Int))then((v100.set v99.toNat x107)[(wr .i64 (v99-1)).toNat]?).bind λ_=>let x111:(List Int):=((v100.set v99.toNat x107).set (wr .i64 (v99-1)).toNat x108);iW k j v93 v94 v95 v96 v97 v98 (wr .i64 (v99-1)) x111 nx else none else none else none else none else none else none else nx.1 (((),v93,v94,(((),v95),v96),v97,v98,()),(v100,()))
def Aq (k:Nat):Cut:=⟨⟨[(0,.c (.lit (.row 3000000))),(1,.c (.int .i64)),(2,.c (.int .i64)),(3,.c (.cap (.cap (.lit (.fn 92)) (.dp u5)) (.dp (.int .i64)))),(9,.c (.int .i64)),(10,.c (.int .i64)),(11,.c (.int .i64))],[(3000000,.row 2 (.int .i64))],[(3000000,some 3000000)]⟩,[(.exit 4,⟨[(0,.c (.lit (.row 3000000))),(1,.c (.int .i64)),(2,.c (.int .i64)),(3,.c (.cap (.cap (.lit (.fn 92)) (.dp u5)) (.dp (.int .i64)))),(9,.c (.int .i64)),(10,.c (.int .i64))],[(3000000,.row 2 (.int .i64))],[(3000000,some 3000000)]⟩)],λρ j v nx=>iW k j v.1.2.1 v.1.2.2.1 v.1.2.2.2.1.1.2 v.1.2.2.2.1.2 v.1.2.2.2.2.1 v.1.2.2.2.2.2.1 v.1.2.2.2.2.2.2.1 v.2.1 nx⟩
def j4 {ρ:Type}(k:Nat):Nat->Int->Int->T7->Int->Int->Int->Int->(List Int)->(((T29×T12)->Option ρ)×Unit)->Option ρ|0,_,_,_,_,_,_,_,_,_=>none|j+1,v112,v113,v114,v115,v116,v117,v118,v119,nx=>bif(decide (v118<v113))then bif decide (0≤v118)&&decide (v118<(v119.length:Int))then(v119[v118.toNat]?).bind λx123=>bif decide (0≤(wr .i64 (v118-1)))&&decide ((wr .i64 (v118-1))<(v119.length:Int))then(v119[(wr .i64 (v118-1)).toNat]?).bind λx124=>(f92 k x123 x124 v114 v115).bind λx125=>bif(!(decide (x125.1.1<0)))then nx.1 (((),v112,v113,(((),v114),v115),v116,v117,()),(v119,()))else bif decide (0≤(wr .i64 (v118-1)))&&decide ((wr .i64 (v118-1))<(v119.length:Int))then(v119[(wr .i64 (v118-1)).toNat]?).bind λx126=>bif decide (0≤v118)&&decide (v118<(v119.length:Int))then(v119[v118.toNat]?).bind λx127=>bif decide (0≤v118)&&decide (v118<(v119.length:Int))then(v119[v118.toNat]?).bind λ_=>bif decide (0≤(wr .i64 (v118-1)))&&decide ((wr .i64 (v118-1))<((v119.set v118.toNat x126).length:Int))then((v119.set v118.toNat x126)[(wr .i64 (v118-1)).toNat]?).bind λ_=>let x130:(List Int):=((v119.set v118.toNat x126).set (wr .i64 (v118-1)).toNat x127);j4 k j v112 v113 v114 v115 v116 v117 (wr .i64 (v118+1)) x130 nx else none else none else none else none else none else none else nx.1 (((),v112,v113,(((),v114),v115),v116,v117,()),(v119,()))
def Ar (k:Nat):Cut:=⟨⟨[(0,.c (.lit (.row 3000000))),(1,.c (.int .i64)),(2,.c (.int .i64)),(3,.c (.cap (.cap (.lit (.fn 92)) (.dp u5)) (.dp (.int .i64)))),(9,.c (.int .i64)),(10,.c (.int .i64)),(12,.c (.int .i64))],[(3000000,.row 2 (.int .i64))],[(3000000,some 3000000)]⟩,[(.exit 6,⟨[(0,.c (.lit (.row 3000000))),(1,.c (.int .i64)),(2,.c (.int .i64)),(3,.c (.cap (.cap (.lit (.fn 92)) (.dp u5)) (.dp (.int .i64)))),(9,.c (.int .i64)),(10,.c (.int .i64))],[(3000000,.row 2 (.int .i64))],[(3000000,some 3000000)]⟩)],λρ j v nx=>j4 k j v.1.2.1 v.1.2.2.1 v.1.2.2.2.1.1.2 v.1.2.2.2.1.2 v.1.2.2.2.2.1 v.1.2.2.2.2.2.1 v.1.2.2.2.2.2.2.1 v.2.1 nx⟩
def mg {ρ:Type}(k:Nat)(v151 v152:Int)(v153:T7)(v154 v155 v156:Int)(v157:(List Int))(nx:(((T29×T12)->Option ρ)×Unit)):Option ρ:=bif(decide ((wr .i64 (v152-v155))≥2))then j4 k k v151 v152 v153 v154 v155 v156 (wr .i64 (v155+1)) v157 (λx158:(T29×T12)=>nx.1 (((),x158.1.2.1,x158.1.2.2.1,(((),x158.1.2.2.2.1.1.2),x158.1.2.2.2.1.2),x158.1.2.2.2.2.1,x158.1.2.2.2.2.2.1,()),(x158.2.1,())),())else nx.1 (((),v151,v152,(((),v153),v154),v155,v156,()),(v157,()))
def Ap :Cut:=⟨⟨[(0,.c (.lit (.row 3000000))),(1,.c (.int .i64)),(2,.c (.int .i64)),(3,.c (.cap (.cap (.lit (.fn 92)) (.dp u5)) (.dp (.int .i64)))),(9,.c (.int .i64)),(10,.c (.int .i64))],[(3000000,.row 2 (.int .i64))],[(3000000,some 3000000)]⟩,[(.normal,⟨[(0,.c (.lit (.row 3000000))),(1,.c (.int .i64)),(2,.c (.int .i64)),(3,.c (.cap (.cap (.lit (.fn 92)) (.dp u5)) (.dp (.int .i64)))),(9,.c (.int .i64)),(10,.c (.int .i64))],[(3000000,.row 2 (.int .i64))],[(3000000,some 3000000)]⟩)],λρ k v nx=>mg k v.1.2.1 v.1.2.2.1 v.1.2.2.2.1.1.2 v.1.2.2.2.1.2 v.1.2.2.2.2.1 v.1.2.2.2.2.2.1 v.2.1 nx⟩
def mh {ρ:Type}(k:Nat):Nat->Int->Int->T7->Int->Int->Int->(List Int)->((T13->Option ρ)×((T2×T12)->Option ρ)×Unit)->Option ρ|0,_,_,_,_,_,_,_,_=>none|j+1,v131,v132,v133,v134,v135,v136,v137,nx=>bif(decide (v136<5))then oH k k v131 v132 v133 v134 v135 v136 v137 (λx139:(T29×T12)=>bif(x139.1.2.2.2.2.1==x139.1.2.2.1)then nx.2.1 ((true,()),(x139.2.1,()))else let x141:Bool:=(decide ((wr .i64 (x139.1.2.2.1-x139.1.2.1))<50));bif x141 then nx.2.1 ((false,()),(x139.2.1,()))else bif decide (0≤(wr .i64 (x139.1.2.2.2.2.1-1)))&&decide ((wr .i64 (x139.1.2.2.2.2.1-1))<(x139.2.1.length:Int))then(x139.2.1[(wr .i64 (x139.1.2.2.2.2.1-1)).toNat]?).bind λx142=>bif decide (0≤x139.1.2.2.2.2.1)&&decide (x139.1.2.2.2.2.1<(x139.2.1.length:Int))then(x139.2.1[x139.1.2.2.2.2.1.toNat]?).bind λx143=>bif decide (0≤x139.1.2.2.2.2.1)&&decide (x139.1.2.2.2.2.1<(x139.2.1.length:Int))then(x139.2.1[x139.1.2.2.2.2.1.toNat]?).bind λ_=>bif decide (0≤(wr .i64 (x139.1.2.2.2.2.1-1)))&&decide ((wr .i64 (x139.1.2.2.2.2.1-1))<((x139.2.1.set x139.1.2.2.2.2.1.toNat x142).length:Int))then((x139.2.1.set x139.1.2.2.2.2.1.toNat x142)[(wr .i64 (x139.1.2.2.2.2.1-1)).toNat]?).bind λ_=>let x146:(List Int):=((x139.2.1.set x139.1.2.2.2.2.1.toNat x142).set (wr .i64 (x139.1.2.2.2.2.1-1)).toNat x143);let x147:Bool:=(decide ((wr .i64 (x139.1.2.2.2.2.1-x139.1.2.1))≥2));bif x147 then iW k k x139.1.2.1 x139.1.2.2.1 x139.1.2.2.2.1.1.2 x139.1.2.2.2.1.2 x139.1.2.2.2.2.1 x139.1.2.2.2.2.2.1 (wr .i64 (x139.1.2.2.2.2.1-1)) x146 (λx148:(T29×T12)=>mg k x148.1.2.1 x148.1.2.2.1 x148.1.2.2.2.1.1.2 x148.1.2.2.2.1.2 x148.1.2.2.2.2.1 x148.1.2.2.2.2.2.1 x148.2.1 (λx149:(T29×T12)=>mh k j x149.1.2.1 x149.1.2.2.1 x149.1.2.2.2.1.1.2 x149.1.2.2.2.1.2 x149.1.2.2.2.2.1 (wr .i64 (x149.1.2.2.2.2.2.1+1)) x149.2.1 nx,()),())else mg k x139.1.2.1 x139.1.2.2.1 x139.1.2.2.2.1.1.2 x139.1.2.2.2.1.2 x139.1.2.2.2.2.1 x139.1.2.2.2.2.2.1 x146 (λx150:(T29×T12)=>mh k j x150.1.2.1 x150.1.2.2.1 x150.1.2.2.2.1.1.2 x150.1.2.2.2.1.2 x150.1.2.2.2.2.1 (wr .i64 (x150.1.2.2.2.2.2.1+1)) x150.2.1 nx,())else none else none else none else none,())else nx.1 ((),(v137,()))
def Ds (k:Nat):Cut:=⟨⟨[(0,.c (.lit (.row 3000000))),(1,.c (.int .i64)),(2,.c (.int .i64)),(3,.c (.cap (.cap (.lit (.fn 92)) (.dp u5)) (.dp (.int .i64)))),(9,.c (.int .i64)),(10,.c (.int .i64))],[(3000000,.row 2 (.int .i64))],[(3000000,some 3000000)]⟩,[(.exit 0,⟨[],[(3000000,.row 2 (.int .i64))],[(3000000,some 3000000)]⟩),(.ret,⟨[(8,.c .bool)],[(3000000,.row 2 (.int .i64))],[(3000000,some 3000000)]⟩)],λρ j v nx=>mh k j v.1.2.1 v.1.2.2.1 v.1.2.2.2.1.1.2 v.1.2.2.2.1.2 v.1.2.2.2.2.1 v.1.2.2.2.2.2.1 v.2.1 nx⟩
def f196 (k:Nat)(a1 a2:Int)(a3:T7)(a4:Int)(a5:(List Int)):Option (T2×T12):=
 mh k k a1 a2 a3 a4 (wr .i64 (a1+1)) 0 a5
  (λx81:T13=>some ((false,()),(x81.2.1,())),
  λx82:(T2×T12)=>some ((x82.1.1,()),(x82.2.1,())),
  ())
def Ql :af:=⟨196,⟨[(0,.c (.row 3000000)),(1,.c (.int .i64)),(2,.c (.int .i64)),(3,.c (.cap (.cap (.lit (.fn 92)) (.dp u5)) (.dp (.int .i64))))],[(3000000,.row 2 (.int .i64))],[]⟩,⟨[(0,.c .bool)],[(3000000,.row 2 (.int .i64))],[(3000000,some 3000000)]⟩,λk v=>f196 k v.1.2.1 v.1.2.2.1 v.1.2.2.2.1.1.2 v.1.2.2.2.1.2 v.2.1⟩
def vf (k:Nat):Full:=fl k 141 [tV] (cuts:=[(5,(Dt k)),(14,(Aq k)),(20,(Ar k)),(3,(Ds k))]) (joins:=[(18,Ap)]) (touch:=[(11,[(15,[3000000]),(17,[3000000])]),(17,[(15,[3000000]),(17,[3000000])]),(23,[(15,[3000000]),(17,[3000000])])])
theorem N8 (k:Nat):aF (vf k) (Dt k) (au Tryz.f196 5):=λρ v nx=>⟨by kernel_rfl,λj=>by kernel_rfl⟩
theorem Lo (k:Nat):aF (vf k) (Aq k) (au Tryz.f196 14):=λρ v nx=>⟨by kernel_rfl,λj=>by kernel_rfl⟩
theorem Lp (k:Nat):aF (vf k) (Ar k) (au Tryz.f196 20):=λρ v nx=>⟨by kernel_rfl,λj=>by kernel_rfl⟩
theorem Lm (k:Nat):dh (vf k) Ap (cY Tryz.f196 18):=λρ v nx=>by kernel_rfl
theorem N7 (k:Nat):aF (vf k) (Ds k) (au Tryz.f196 3):=λρ v nx=>⟨by kernel_rfl,λj=>by kernel_rfl⟩
theorem Y9 :SN Ql:=so Tryz.func196 vf (λ_ j=>⟨xh.at j,trivial⟩) (λ_ _=>by kernel_rfl) (hob:=λk=>Eq.mpr (by kernel_rfl) (And.intro (N8 k) (And.intro (Lo k) (And.intro (Lp k) (And.intro (Lm k) (And.intro (N7 k) (trivial)))))))
def oI {ρ:Type}(k:Nat):Nat->Int->T7->Int->Int->Int->(List Int)->(((T25×T12)->Option ρ)×Unit)->Option ρ|0,_,_,_,_,_,_,_=>none|j+1,v44,v45,v46,v47,v48,v49,nx=>bif(decide (v47≤v48))then bif decide (0≤v44)&&decide (v44<(v49.length:Int))then(v49[v44.toNat]?).bind λx50=>bif decide (0≤v47)&&decide (v47<(v49.length:Int))then(v49[v47.toNat]?).bind λx51=>(f92 k x50 x51 v45 v46).bind λx52=>bif(!(decide (x52.1.1<0)))then oI k j v44 v45 v46 (wr .i64 (v47+1)) v48 v49 nx else nx.1 (((),v44,(((),v45),v46),v47,v48,()),(v49,()))else none else none else nx.1 (((),v44,(((),v45),v46),v47,v48,()),(v49,()))
def Du (k:Nat):Cut:=⟨⟨[(0,.c (.lit (.row 3000000))),(1,.c (.int .i64)),(4,.c (.cap (.cap (.lit (.fn 92)) (.dp u5)) (.dp (.int .i64)))),(11,.c (.int .i64)),(12,.c (.int .i64))],[(3000000,.row 2 (.int .i64))],[(3000000,some 3000000)]⟩,[(.exit 2,⟨[(0,.c (.lit (.row 3000000))),(1,.c (.int .i64)),(4,.c (.cap (.cap (.lit (.fn 92)) (.dp u5)) (.dp (.int .i64)))),(11,.c (.int .i64)),(12,.c (.int .i64))],[(3000000,.row 2 (.int .i64))],[(3000000,some 3000000)]⟩)],λρ j v nx=>oI k j v.1.2.1 v.1.2.2.1.1.2 v.1.2.2.1.2 v.1.2.2.2.1 v.1.2.2.2.2.1 v.2.1 nx⟩
def oJ {ρ:Type}(k:Nat):Nat->Int->T7->Int->Int->Int->(List Int)->(((T25×T12)->Option ρ)×Unit)->Option ρ|0,_,_,_,_,_,_,_=>none|j+1,v53,v54,v55,v56,v57,v58,nx=>bif(decide (v56≤v57))then bif decide (0≤v53)&&decide (v53<(v58.length:Int))then(v58[v53.toNat]?).bind λx59=>bif decide (0≤v57)&&decide (v57<(v58.length:Int))then(v58[v57.toNat]?).bind λx60=>(f92 k x59 x60 v54 v55).bind λx61=>bif(decide (x61.1.1<0))then oJ k j v53 v54 v55 v56 (wr .i64 (v57-1)) v58 nx else nx.1 (((),v53,(((),v54),v55),v56,v57,()),(v58,()))else none else none else nx.1 (((),v53,(((),v54),v55),v56,v57,()),(v58,()))
def Dv (k:Nat):Cut:=⟨⟨[(0,.c (.lit (.row 3000000))),(1,.c (.int .i64)),(4,.c (.cap (.cap (.lit (.fn 92)) (.dp u5)) (.dp (.int .i64)))),(11,.c (.int .i64)),(12,.c (.int .i64))],[(3000000,.row 2 (.int .i64))],[(3000000,some 3000000)]⟩,[(.exit 4,⟨[(0,.c (.lit (.row 3000000))),(1,.c (.int .i64)),(4,.c (.cap (.cap (.lit (.fn 92)) (.dp u5)) (.dp (.int .i64)))),(11,.c (.int .i64)),(12,.c (.int .i64))],[(3000000,.row 2 (.int .i64))],[(3000000,some 3000000)]⟩)],λρ j v nx=>oJ k j v.1.2.1 v.1.2.2.1.1.2 v.1.2.2.1.2 v.1.2.2.2.1 v.1.2.2.2.2.1 v.2.1 nx⟩
def fw {ρ:Type}(k:Nat):Nat->Int->T7->Int->Int->Int->(List Int)->(((T0×T12)->Option ρ)×Unit)->Option ρ|0,_,_,_,_,_,_,_=>none|j+1,v62,v63,v64,v65,v66,v67,nx=>oI k k v62 v63 v64 v65 v66 v67 (λx69:(T25×T12)=>oJ k k x69.1.2.1 x69.1.2.2.1.1.2 x69.1.2.2.1.2 x69.1.2.2.2.1 x69.1.2.2.2.2.1 x69.2.1 (λx71:(T25×T12)=>bif(decide (x71.1.2.2.2.1>x71.1.2.2.2.2.1))then nx.1 ((x71.1.2.2.2.1,()),(x71.2.1,()))else bif decide (0≤x71.1.2.2.2.2.1)&&decide (x71.1.2.2.2.2.1<(x71.2.1.length:Int))then(x71.2.1[x71.1.2.2.2.2.1.toNat]?).bind λx72=>bif decide (0≤x71.1.2.2.2.1)&&decide (x71.1.2.2.2.1<(x71.2.1.length:Int))then(x71.2.1[x71.1.2.2.2.1.toNat]?).bind λx73=>bif decide (0≤x71.1.2.2.2.1)&&decide (x71.1.2.2.2.1<(x71.2.1.length:Int))then(x71.2.1[x71.1.2.2.2.1.toNat]?).bind λ_=>bif decide (0≤x71.1.2.2.2.2.1)&&decide (x71.1.2.2.2.2.1<((x71.2.1.set x71.1.2.2.2.1.toNat x72).length:Int))then((x71.2.1.set x71.1.2.2.2.1.toNat x72)[x71.1.2.2.2.2.1.toNat]?).bind λ_=>let x76:(List Int):=((x71.2.1.set x71.1.2.2.2.1.toNat x72).set x71.1.2.2.2.2.1.toNat x73);fw k j x71.1.2.1 x71.1.2.2.1.1.2 x71.1.2.2.1.2 (wr .i64 (x71.1.2.2.2.1+1)) (wr .i64 (x71.1.2.2.2.2.1-1)) x76 nx else none else none else none else none,()),())
def tn (k:Nat):Cut:=⟨⟨[(0,.c (.lit (.row 3000000))),(1,.c (.int .i64)),(4,.c (.cap (.cap (.lit (.fn 92)) (.dp u5)) (.dp (.int .i64)))),(11,.c (.int .i64)),(12,.c (.int .i64))],[(3000000,.row 2 (.int .i64))],[(3000000,some 3000000)]⟩,[(.exit 0,⟨[(11,.c (.int .i64))],[(3000000,.row 2 (.int .i64))],[(3000000,some 3000000)]⟩)],λρ j v nx=>fw k j v.1.2.1 v.1.2.2.1.1.2 v.1.2.2.1.2 v.1.2.2.2.1 v.1.2.2.2.2.1 v.2.1 nx⟩
def f197 (k:Nat)(a1 a2 a3:Int)(a4:T7)(a5:Int)(a6:(List Int)):Option (T0×T12):=bif decide (0≤a3)&&decide (a3<(a6.length:Int))then(a6[a3.toNat]?).bind λx39=>bif decide (0≤a1)&&decide (a1<(a6.length:Int))then(a6[a1.toNat]?).bind λx40=>bif decide (0≤a1)&&decide (a1<(a6.length:Int))then(a6[a1.toNat]?).bind λ_=>bif decide (0≤a3)&&decide (a3<((a6.set a1.toNat x39).length:Int))then((a6.set a1.toNat x39)[a3.toNat]?).bind λ_=>fw k k a1 a4 a5 (wr .i64 (a1+1)) (wr .i64 (a2-1)) ((a6.set a1.toNat x39).set a3.toNat x40) (λx43:(T0×T12)=>some ((x43.1.1,()),(x43.2.1,())),())else none else none else none else none
def Qm :af:=⟨197,⟨[(0,.c (.row 3000000)),(1,.c (.int .i64)),(2,.c (.int .i64)),(3,.c (.int .i64)),(4,.c (.cap (.cap (.lit (.fn 92)) (.dp u5)) (.dp (.int .i64))))],[(3000000,.row 2 (.int .i64))],[]⟩,⟨[(0,.c (.int .i64))],[(3000000,.row 2 (.int .i64))],[(3000000,some 3000000)]⟩,λk v=>f197 k v.1.2.1 v.1.2.2.1 v.1.2.2.2.1 v.1.2.2.2.2.1.1.2 v.1.2.2.2.2.1.2 v.2.1⟩
def Cf (k:Nat):Full:=fl k 90 [tV] (cuts:=[(3,(Du k)),(5,(Dv k)),(100003,(tn k))]) (touch:=[(1,[(13,[3000000]),(15,[3000000])]),(8,[(13,[3000000]),(15,[3000000])])])
theorem N9 (k:Nat):aF (Cf k) (Du k) (au Tryz.f197 3):=λρ v nx=>⟨by kernel_rfl,λj=>by kernel_rfl⟩
theorem Oa (k:Nat):aF (Cf k) (Dv k) (au Tryz.f197 5):=λρ v nx=>⟨by kernel_rfl,λj=>by kernel_rfl⟩
theorem BO (k:Nat):aF (Cf k) (tn k) (au Tryz.f197 100003):=λρ v nx=>⟨by kernel_rfl,λj=>by kernel_rfl⟩
theorem Za :SN Qm:=so Tryz.func197 Cf (λ_ j=>⟨xh.at j,trivial⟩) (λ_ _=>by kernel_rfl) (hob:=λk=>Eq.mpr (by kernel_rfl) (And.intro (N9 k) (And.intro (Oa k) (And.intro (BO k) (trivial)))))
def ml {ρ:Type}(k:Nat):Nat->Int->T7->Int->Int->Int->(List Int)->(((T25×T12)->Option ρ)×Unit)->Option ρ|0,_,_,_,_,_,_,_=>none|j+1,v112,v113,v114,v115,v116,v117,nx=>bif(decide (v115≤v116))then bif decide (0≤v115)&&decide (v115<(v117.length:Int))then(v117[v115.toNat]?).bind λx118=>bif decide (0≤v112)&&decide (v112<(v117.length:Int))then(v117[v112.toNat]?).bind λx119=>(f92 k x118 x119 v113 v114).bind λx120=>bif(decide (x120.1.1<0))then ml k j v112 v113 v114 (wr .i64 (v115+1)) v116 v117 nx else nx.1 (((),v112,(((),v113),v114),v115,v116,()),(v117,()))else none else none else nx.1 (((),v112,(((),v113),v114),v115,v116,()),(v117,()))
def Dw (k:Nat):Cut:=⟨⟨[(0,.c (.lit (.row 3000000))),(1,.c (.int .i64)),(4,.c (.cap (.cap (.lit (.fn 92)) (.dp u5)) (.dp (.int .i64)))),(12,.c (.int .i64)),(13,.c (.int .i64))],[(3000000,.row 2 (.int .i64))],[(3000000,some 3000000)]⟩,[(.exit 0,⟨[(0,.c (.lit (.row 3000000))),(1,.c (.int .i64)),(4,.c (.cap (.cap (.lit (.fn 92)) (.dp u5)) (.dp (.int .i64)))),(12,.c (.int .i64)),(13,.c (.int .i64))],[(3000000,.row 2 (.int .i64))],[(3000000,some 3000000)]⟩)],λρ j v nx=>ml k j v.1.2.1 v.1.2.2.1.1.2 v.1.2.2.1.2 v.1.2.2.2.1 v.1.2.2.2.2.1 v.2.1 nx⟩
def oK {ρ:Type}(k:Nat):Nat->Int->T7->Int->Int->Int->(List Int)->(((T25×T12)->Option ρ)×Unit)->Option ρ|0,_,_,_,_,_,_,_=>none|j+1,v121,v122,v123,v124,v125,v126,nx=>bif(decide (v124≤v125))then bif decide (0≤v125)&&decide (v125<(v126.length:Int))then(v126[v125.toNat]?).bind λx127=>bif decide (0≤v121)&&decide (v121<(v126.length:Int))then(v126[v121.toNat]?).bind λx128=>(f92 k x127 x128 v122 v123).bind λx129=>bif(!(decide (x129.1.1<0)))then oK k j v121 v122 v123 v124 (wr .i64 (v125-1)) v126 nx else nx.1 (((),v121,(((),v122),v123),v124,v125,()),(v126,()))else none else none else nx.1 (((),v121,(((),v122),v123),v124,v125,()),(v126,()))
def Dx (k:Nat):Cut:=⟨⟨[(0,.c (.lit (.row 3000000))),(1,.c (.int .i64)),(4,.c (.cap (.cap (.lit (.fn 92)) (.dp u5)) (.dp (.int .i64)))),(12,.c (.int .i64)),(13,.c (.int .i64))],[(3000000,.row 2 (.int .i64))],[(3000000,some 3000000)]⟩,[(.exit 2,⟨[(0,.c (.lit (.row 3000000))),(1,.c (.int .i64)),(4,.c (.cap (.cap (.lit (.fn 92)) (.dp u5)) (.dp (.int .i64)))),(12,.c (.int .i64)),(13,.c (.int .i64))],[(3000000,.row 2 (.int .i64))],[(3000000,some 3000000)]⟩)],λρ j v nx=>oK k j v.1.2.1 v.1.2.2.1.1.2 v.1.2.2.1.2 v.1.2.2.2.1 v.1.2.2.2.2.1 v.2.1 nx⟩
def mi {ρ:Type}(k:Nat):Nat->Int->T7->Int->Int->Int->(List Int)->(((T25×T12)->Option ρ)×Unit)->Option ρ|0,_,_,_,_,_,_,_=>none|j+1,v130,v131,v132,v133,v134,v135,nx=>bif(decide (v133≤v134))then bif decide (0≤v133)&&decide (v133<(v135.length:Int))then(v135[v133.toNat]?).bind λx136=>bif decide (0≤v130)&&decide (v130<(v135.length:Int))then(v135[v130.toNat]?).bind λx137=>(f92 k x136 x137 v131 v132).bind λx138=>bif(decide (x138.1.1<0))then mi k j v130 v131 v132 (wr .i64 (v133+1)) v134 v135 nx else nx.1 (((),v130,(((),v131),v132),v133,v134,()),(v135,()))else none else none else nx.1 (((),v130,(((),v131),v132),v133,v134,()),(v135,()))
def As (k:Nat):Cut:=⟨⟨[(0,.c (.lit (.row 3000000))),(1,.c (.int .i64)),(4,.c (.cap (.cap (.lit (.fn 92)) (.dp u5)) (.dp (.int .i64)))),(12,.c (.int .i64)),(13,.c (.int .i64))],[(3000000,.row 2 (.int .i64))],[(3000000,some 3000000)]⟩,[(.exit 6,⟨[(0,.c (.lit (.row 3000000))),(1,.c (.int .i64)),(4,.c (.cap (.cap (.lit (.fn 92)) (.dp u5)) (.dp (.int .i64)))),(12,.c (.int .i64)),(13,.c (.int .i64))],[(3000000,.row 2 (.int .i64))],[(3000000,some 3000000)]⟩)],λρ j v nx=>mi k j v.1.2.1 v.1.2.2.1.1.2 v.1.2.2.1.2 v.1.2.2.2.1 v.1.2.2.2.2.1 v.2.1 nx⟩
def mj {ρ:Type}(k:Nat):Nat->Int->T7->Int->Int->Int->(List Int)->(((T25×T12)->Option ρ)×Unit)->Option ρ|0,_,_,_,_,_,_,_=>none|j+1,v139,v140,v141,v142,v143,v144,nx=>bif(decide (v142≤v143))then bif decide (0≤v143)&&decide (v143<(v144.length:Int))then(v144[v143.toNat]?).bind λx145=>bif decide (0≤v139)&&decide (v139<(v144.length:Int))then(v144[v139.toNat]?).bind λx146=>(f92 k x145 x146 v140 v141).bind λx147=>bif(!(decide (x147.1.1<0)))then mj k j v139 v140 v141 v142 (wr .i64 (v143-1)) v144 nx else nx.1 (((),v139,(((),v140),v141),v142,v143,()),(v144,()))else none else none else nx.1 (((),v139,(((),v140),v141),v142,v143,()),(v144,()))
def At (k:Nat):Cut:=⟨⟨[(0,.c (.lit (.row 3000000))),(1,.c (.int .i64)),(4,.c (.cap (.cap (.lit (.fn 92)) (.dp u5)) (.dp (.int .i64)))),(12,.c (.int .i64)),(13,.c (.int .i64))],[(3000000,.row 2 (.int .i64))],[(3000000,some 3000000)]⟩,[(.exit 8,⟨[(0,.c (.lit (.row 3000000))),(1,.c (.int .i64)),(4,.c (.cap (.cap (.lit (.fn 92)) (.dp u5)) (.dp (.int .i64)))),(12,.c (.int .i64)),(13,.c (.int .i64))],[(3000000,.row 2 (.int .i64))],[(3000000,some 3000000)]⟩)],λρ j v nx=>mj k j v.1.2.1 v.1.2.2.1.1.2 v.1.2.2.1.2 v.1.2.2.2.1 v.1.2.2.2.2.1 v.2.1 nx⟩
def fx {ρ:Type}(k:Nat):Nat->Int->T7->Int->Int->Int->(List Int)->((((Unit×Int×Int×Unit)×T12)->Option ρ)×Unit)->Option ρ|0,_,_,_,_,_,_,_=>none|j+1,v148,v149,v150,v151,v152,v153,nx=>mi k k v148 v149 v150 v151 v152 v153 (λx155:(T25×T12)=>mj k k x155.1.2.1 x155.1.2.2.1.1.2 x155.1.2.2.1.2 x155.1.2.2.2.1 x155.1.2.2.2.2.1 x155.2.1 (λx157:(T25×T12)=>bif(decide (x157.1.2.2.2.1>x157.1.2.2.2.2.1))then nx.1 (((),x157.1.2.1,x157.1.2.2.2.2.1,()),(x157.2.1,()))else bif decide (0≤x157.1.2.2.2.2.1)&&decide (x157.1.2.2.2.2.1<(x157.2.1.length:Int))then(x157.2.1[x157.1.2.2.2.2.1.toNat]?).bind λx158=>bif decide (0≤x157.1.2.2.2.1)&&decide (x157.1.2.2.2.1<(x157.2.1.length:Int))then(x157.2.1[x157.1.2.2.2.1.toNat]?).bind λx159=>bif decide (0≤x157.1.2.2.2.1)&&decide (x157.1.2.2.2.1<(x157.2.1.length:Int))then(x157.2.1[x157.1.2.2.2.1.toNat]?).bind λ_=>bif decide (0≤x157.1.2.2.2.2.1)&&decide (x157.1.2.2.2.2.1<((x157.2.1.set x157.1.2.2.2.1.toNat x158).length:Int))then((x157.2.1.set x157.1.2.2.2.1.toNat x158)[x157.1.2.2.2.2.1.toNat]?).bind λ_=>let x162:(List Int):=((x157.2.1.set x157.1.2.2.2.1.toNat x158).set x157.1.2.2.2.2.1.toNat x159);fx k j x157.1.2.1 x157.1.2.2.1.1.2 x157.1.2.2.1.2 (wr .i64 (x157.1.2.2.2.1+1)) (wr .i64 (x157.1.2.2.2.2.1-1)) x162 nx else none else none else none else none,()),())
def to (k:Nat):Cut:=⟨⟨[(0,.c (.lit (.row 3000000))),(1,.c (.int .i64)),(4,.c (.cap (.cap (.lit (.fn 92)) (.dp u5)) (.dp (.int .i64)))),(12,.c (.int .i64)),(13,.c (.int .i64))],[(3000000,.row 2 (.int .i64))],[(3000000,some 3000000)]⟩,[(.exit 4,⟨[(0,.c (.lit (.row 3000000))),(1,.c (.int .i64)),(13,.c (.int .i64))],[(3000000,.row 2 (.int .i64))],[(3000000,some 3000000)]⟩)],λρ j v nx=>fx k j v.1.2.1 v.1.2.2.1.1.2 v.1.2.2.1.2 v.1.2.2.2.1 v.1.2.2.2.2.1 v.2.1 nx⟩
def f198 (k:Nat)(a1 a2 a3:Int)(a4:T7)(a5:Int)(a6:(List Int)):Option ((Int×Bool×Unit)×T12):=bif decide (0≤a3)&&decide (a3<(a6.length:Int))then(a6[a3.toNat]?).bind λx82=>bif decide (0≤a1)&&decide (a1<(a6.length:Int))then(a6[a1.toNat]?).bind λx83=>bif decide (0≤a1)&&decide (a1<(a6.length:Int))then(a6[a1.toNat]?).bind λ_=>bif decide (0≤a3)&&decide (a3<((a6.set a1.toNat x82).length:Int))then((a6.set a1.toNat x82)[a3.toNat]?).bind λ_=>ml k k a1 a4 a5 (wr .i64 (a1+1)) (wr .i64 (a2-1)) ((a6.set a1.toNat x82).set a3.toNat x83) (λx87:(T25×T12)=>oK k k x87.1.2.1 x87.1.2.2.1.1.2 x87.1.2.2.1.2 x87.1.2.2.2.1 x87.1.2.2.2.2.1 x87.2.1 (λx89:(T25×T12)=>bif(decide (x89.1.2.2.2.1>x89.1.2.2.2.2.1))then bif decide (0≤x89.1.2.1)&&decide (x89.1.2.1<(x89.2.1.length:Int))then(x89.2.1[x89.1.2.1.toNat]?).bind λx95=>bif decide (0≤x89.1.2.2.2.2.1)&&decide (x89.1.2.2.2.2.1<(x89.2.1.length:Int))then(x89.2.1[x89.1.2.2.2.2.1.toNat]?).bind λx96=>bif decide (0≤x89.1.2.2.2.2.1)&&decide (x89.1.2.2.2.2.1<(x89.2.1.length:Int))then(x89.2.1[x89.1.2.2.2.2.1.toNat]?).bind λ_=>bif decide (0≤x89.1.2.1)&&decide (x89.1.2.1<((x89.2.1.set x89.1.2.2.2.2.1.toNat x95).length:Int))then((x89.2.1.set x89.1.2.2.2.2.1.toNat x95)[x89.1.2.1.toNat]?).bind λ_=>let x99:(List Int):=((x89.2.1.set x89.1.2.2.2.2.1.toNat x95).set x89.1.2.1.toNat x96);some ((x89.1.2.2.2.2.1,true,()),(x99,()))else none else none else none else none else bif decide (0≤x89.1.2.2.2.2.1)&&decide (x89.1.2.2.2.2.1<(x89.2.1.length:Int))then(x89.2.1[x89.1.2.2.2.2.1.toNat]?).bind λx100=>bif decide (0≤x89.1.2.2.2.1)&&decide (x89.1.2.2.2.1<(x89.2.1.length:Int))then(x89.2.1[x89.1.2.2.2.1.toNat]?).bind λx101=>bif decide (0≤x89.1.2.2.2.1)&&decide (x89.1.2.2.2.1<(x89.2.1.length:Int))then(x89.2.1[x89.1.2.2.2.1.toNat]?).bind λ_=>bif decide (0≤x89.1.2.2.2.2.1)&&decide (x89.1.2.2.2.2.1<((x89.2.1.set x89.1.2.2.2.1.toNat x100).length:Int))then((x89.2.1.set x89.1.2.2.2.1.toNat x100)[x89.1.2.2.2.2.1.toNat]?).bind λ_=>let x104:(List Int):=((x89.2.1.set x89.1.2.2.2.1.toNat x100).set x89.1.2.2.2.2.1.toNat x101);fx k k x89.1.2.1 x89.1.2.2.1.1.2 x89.1.2.2.1.2 (wr .i64 (x89.1.2.2.2.1+1)) (wr .i64 (x89.1.2.2.2.2.1-1)) x104 (λx106:((Unit×Int×Int×Unit)×T12)=>bif decide (0≤x106.1.2.1)&&decide (x106.1.2.1<(x106.2.1.length:Int))then(x106.2.1[x106.1.2.1.toNat]?).bind λx107=>bif decide (0≤x106.1.2.2.1)&&decide (x106.1.2.2.1<(x106.2.1.length:Int))then(x106.2.1[x106.1.2.2.1.toNat]?).bind λx108=>bif decide (0≤x106.1.2.2.1)&&decide (x106.1.2.2.1<(x106.2.1.length:Int))then(x106.2.1[x106.1.2.2.1.toNat]?).bind λ_=>bif decide (0≤x106.1.2.1)&&decide (x106.1.2.1<((x106.2.1.set x106.1.2.2.1.toNat x107).length:Int))then((x106.2.1.set x106.1.2.2.1.toNat x107)[x106.1.2.1.toNat]?).bind λ_=>let x111:(List Int):=((x106.2.1.set x106.1.2.2.1.toNat x107).set x106.1.2.1.toNat x108);some ((x106.1.2.2.1,false,()),(x111,()))else none else none else none else none,())else none else none else none else none,()),())else none else none else none else none
def Qn :af:=⟨198,⟨[(0,.c (.row 3000000)),(1,.c (.int .i64)),(2,.c (.int .i64)),(3,.c (.int .i64)),(4,.c (.cap (.cap (.lit (.fn 92)) (.dp u5)) (.dp (.int .i64))))],[(3000000,.row 2 (.int .i64))],[]⟩,⟨[(0,.c (.int .i64)),(1,.c .bool)],[(3000000,.row 2 (.int .i64))],[(3000000,some 3000000)]⟩,λk v=>f198 k v.1.2.1 v.1.2.2.1 v.1.2.2.2.1 v.1.2.2.2.2.1.1.2 v.1.2.2.2.2.1.2 v.2.1⟩
def vg (k:Nat):Full:=fl k 178 [tV] (cuts:=[(3,(Dw k)),(5,(Dx k)),(13,(As k)),(15,(At k)),(100013,(to k))]) (touch:=[(1,[(13,[3000000]),(15,[3000000])]),(8,[(13,[3000000]),(15,[3000000])]),(10,[(13,[3000000]),(15,[3000000])]),(18,[(13,[3000000]),(15,[3000000])]),(21,[(13,[3000000]),(15,[3000000])])])
theorem Ob (k:Nat):aF (vg k) (Dw k) (au Tryz.f198 3):=λρ v nx=>⟨by kernel_rfl,λj=>by kernel_rfl⟩
theorem Oc (k:Nat):aF (vg k) (Dx k) (au Tryz.f198 5):=λρ v nx=>⟨by kernel_rfl,λj=>by kernel_rfl⟩
theorem Lq (k:Nat):aF (vg k) (As k) (au Tryz.f198 13):=λρ v nx=>⟨by kernel_rfl,λj=>by kernel_rfl⟩
theorem Lr (k:Nat):aF (vg k) (At k) (au Tryz.f198 15):=λρ v nx=>⟨by kernel_rfl,λj=>by kernel_rfl⟩
theorem BP (k:Nat):aF (vg k) (to k) (au Tryz.f198 100013):=λρ v nx=>⟨by kernel_rfl,λj=>by kernel_rfl⟩
theorem Zb :SN Qn:=so Tryz.func198 vg (λ_ j=>⟨xh.at j,trivial⟩) (λ_ _=>by kernel_rfl) (hob:=λk=>Eq.mpr (by kernel_rfl) (And.intro (Ob k) (And.intro (Oc k) (And.intro (Lq k) (And.intro (Lr k) (And.intro (BP k) (trivial)))))))
def pb {ρ:Type}(bz:Int->Int->Int->T7->Int->(List Int)->Option T13)(k:Nat)(v171 v172 v173:Int)(v174:T7)(v175 v176 v177:Int)(v178:(List Int))(nx:(((T31×T12)->Option ρ)×Unit)):Option ρ:=(f198 k v171 v172 v177 v174 v175 v178).bind λx179=>let x180:Bool:=(decide ((wr .i64 (x179.1.1-v171))<(wr .i64 (v172-x179.1.1))));bif x180 then let x181:Bool:=(decide ((wr .i64 (x179.1.1-v171))≥(wr .i64 (v176.tdiv 8))));(bz v171 x179.1.1 v173 v174 v175 x179.2.1).bind λx182=>nx.1 (((),(wr .i64 (x179.1.1+1)),v172,v173,(((),v174),v175),x181,x179.1.2.1,()),(x182.2.1,()))else let x183:Bool:=(decide ((wr .i64 (v172-x179.1.1))≥(wr .i64 (v176.tdiv 8))));(bz (wr .i64 (x179.1.1+1)) v172 v173 v174 v175 x179.2.1).bind λx184=>nx.1 (((),v171,x179.1.1,v173,(((),v174),v175),x183,x179.1.2.1,()),(x184.2.1,()))
def Ai (bz:Int->Int->Int->T7->Int->(List Int)->Option T13):Cut:=⟨⟨[(0,.c (.lit (.row 3000000))),(1,.c (.int .i64)),(2,.c (.int .i64)),(3,.c (.int .i64)),(4,.c (.cap (.cap (.lit (.fn 92)) (.dp u5)) (.dp (.int .i64)))),(12,.c (.int .i64)),(13,.c (.int .i64))],[(3000000,.row 2 (.int .i64))],[(3000000,some 3000000)]⟩,[(.normal,⟨[(0,.c (.lit (.row 3000000))),(1,.c (.int .i64)),(2,.c (.int .i64)),(3,.c (.int .i64)),(4,.c (.cap (.cap (.lit (.fn 92)) (.dp u5)) (.dp (.int .i64)))),(10,.c .bool),(11,.c .bool)],[(3000000,.row 2 (.int .i64))],[(3000000,some 3000000)]⟩)],λρ k v nx=>pb bz k v.1.2.1 v.1.2.2.1 v.1.2.2.2.1 v.1.2.2.2.2.1.1.2 v.1.2.2.2.2.1.2 v.1.2.2.2.2.2.1 v.1.2.2.2.2.2.2.1 v.2.1 nx⟩
def iV {ρ:Type}(bz:Int->Int->Int->T7->Int->(List Int)->Option T13)(k:Nat)(v155 v156 v157:Int)(v158:T7)(v159:Int)(v160 v161:Bool)(v162 v163:Int)(v164:(List Int))(nx:(((T31×T12)->Option ρ)×((T31×T12)->Option ρ)×Unit)):Option ρ:=bif(decide (v155>0))then bif decide (0≤(wr .i64 (v155-1)))&&decide ((wr .i64 (v155-1))<(v164.length:Int))then(v164[(wr .i64 (v155-1)).toNat]?).bind λx165=>bif decide (0≤v163)&&decide (v163<(v164.length:Int))then(v164[v163.toNat]?).bind λx166=>(f92 k x165 x166 v158 v159).bind λx167=>bif(!(decide (x167.1.1<0)))then(f197 k v155 v156 v163 v158 v159 v164).bind λx168=>nx.1 (((),x168.1.1,v156,v157,(((),v158),v159),v160,v161,()),(x168.2.1,()))else pb bz k v155 v156 v157 v158 v159 v162 v163 v164 (λx169:(T31×T12)=>nx.2.1 (((),x169.1.2.1,x169.1.2.2.1,x169.1.2.2.2.1,(((),x169.1.2.2.2.2.1.1.2),x169.1.2.2.2.2.1.2),x169.1.2.2.2.2.2.1,x169.1.2.2.2.2.2.2.1,()),(x169.2.1,())),())else none else none else pb bz k v155 v156 v157 v158 v159 v162 v163 v164 (λx170:(T31×T12)=>nx.2.1 (((),x170.1.2.1,x170.1.2.2.1,x170.1.2.2.2.1,(((),x170.1.2.2.2.2.1.1.2),x170.1.2.2.2.2.1.2),x170.1.2.2.2.2.2.1,x170.1.2.2.2.2.2.2.1,()),(x170.2.1,())),())
def Ah (bz:Int->Int->Int->T7->Int->(List Int)->Option T13):Cut:=⟨⟨[(0,.c (.lit (.row 3000000))),(1,.c (.int .i64)),(2,.c (.int .i64)),(3,.c (.int .i64)),(4,.c (.cap (.cap (.lit (.fn 92)) (.dp u5)) (.dp (.int .i64)))),(10,.c .bool),(11,.c .bool),(12,.c (.int .i64)),(13,.c (.int .i64))],[(3000000,.row 2 (.int .i64))],[(3000000,some 3000000)]⟩,[(.exit 1,⟨[(0,.c (.lit (.row 3000000))),(1,.c (.int .i64)),(2,.c (.int .i64)),(3,.c (.int .i64)),(4,.c (.cap (.cap (.lit (.fn 92)) (.dp u5)) (.dp (.int .i64)))),(10,.c .bool),(11,.c .bool)],[(3000000,.row 2 (.int .i64))],[(3000000,some 3000000)]⟩),(.normal,⟨[(0,.c (.lit (.row 3000000))),(1,.c (.int .i64)),(2,.c (.int .i64)),(3,.c (.int .i64)),(4,.c (.cap (.cap (.lit (.fn 92)) (.dp u5)) (.dp (.int .i64)))),(10,.c .bool),(11,.c .bool)],[(3000000,.row 2 (.int .i64))],[(3000000,some 3000000)]⟩)],λρ k v nx=>iV bz k v.1.2.1 v.1.2.2.1 v.1.2.2.2.1 v.1.2.2.2.2.1.1.2 v.1.2.2.2.2.1.2 v.1.2.2.2.2.2.1 v.1.2.2.2.2.2.2.1 v.1.2.2.2.2.2.2.2.1 v.1.2.2.2.2.2.2.2.2.1 v.2.1 nx⟩
def lW {ρ:Type}(bz:Int->Int->Int->T7->Int->(List Int)->Option T13)(k:Nat)(v135 v136 v137:Int)(v138:T7)(v139:Int)(v140 v141:Bool)(v142 v143 v144:Int)(v145:(List Int))(nx:(((T31×T12)->Option ρ)×((T31×T12)->Option ρ)×(T13->Option ρ)×Unit)):Option ρ:=bif v140 then bif v141 then bif(v144==1)then(f196 k v135 v136 v138 v139 v145).bind λx146=>bif x146.1.1 then nx.2.2.1 ((),(x146.2.1,()))else iV bz k v135 v136 v137 v138 v139 v140 v141 v142 v143 x146.2.1 (λx147:(T31×T12)=>nx.1 (((),x147.1.2.1,x147.1.2.2.1,x147.1.2.2.2.1,(((),x147.1.2.2.2.2.1.1.2),x147.1.2.2.2.2.1.2),x147.1.2.2.2.2.2.1,x147.1.2.2.2.2.2.2.1,()),(x147.2.1,())),λx148:(T31×T12)=>nx.2.1 (((),x148.1.2.1,x148.1.2.2.1,x148.1.2.2.2.1,(((),x148.1.2.2.2.2.1.1.2),x148.1.2.2.2.2.1.2),x148.1.2.2.2.2.2.1,x148.1.2.2.2.2.2.2.1,()),(x148.2.1,())),())else iV bz k v135 v136 v137 v138 v139 v140 v141 v142 v143 v145 (λx149:(T31×T12)=>nx.1 (((),x149.1.2.1,x149.1.2.2.1,x149.1.2.2.2.1,(((),x149.1.2.2.2.2.1.1.2),x149.1.2.2.2.2.1.2),x149.1.2.2.2.2.2.1,x149.1.2.2.2.2.2.2.1,()),(x149.2.1,())),λx150:(T31×T12)=>nx.2.1 (((),x150.1.2.1,x150.1.2.2.1,x150.1.2.2.2.1,(((),x150.1.2.2.2.2.1.1.2),x150.1.2.2.2.2.1.2),x150.1.2.2.2.2.2.1,x150.1.2.2.2.2.2.2.1,()),(x150.2.1,())),())else iV bz k v135 v136 v137 v138 v139 v140 v141 v142 v143 v145 (λx151:(T31×T12)=>nx.1 (((),x151.1.2.1,x151.1.2.2.1,x151.1.2.2.2.1,(((),x151.1.2.2.2.2.1.1.2),x151.1.2.2.2.2.1.2),x151.1.2.2.2.2.2.1,x151.1.2.2.2.2.2.2.1,()),(x151.2.1,())),λx152:(T31×T12)=>nx.2.1 (((),x152.1.2.1,x152.1.2.2.1,x152.1.2.2.2.1,(((),x152.1.2.2.2.2.1.1.2),x152.1.2.2.2.2.1.2),x152.1.2.2.2.2.2.1,x152.1.2.2.2.2.2.2.1,()),(x152.2.1,())),())else iV bz k v135 v136 v137 v138 v139 v140 v141 v142 v143 v145 (λx153:(T31×T12)=>nx.1 (((),x153.1.2.1,x153.1.2.2.1,x153.1.2.2.2.1,(((),x153.1.2.2.2.2.1.1.2),x153.1.2.2.2.2.1.2),x153.1.2.2.2.2.2.1,x153.1.2.2.2.2.2.2.1,()),(x153.2.1,())),λx154:(T31×T12)=>nx.2.1 (((),x154.1.2.1,x154.1.2.2.1,x154.1.2.2.2.1,(((),x154.1.2.2.2.2.1.1.2),x154.1.2.2.2.2.1.2),x154.1.2.2.2.2.2.1,x154.1.2.2.2.2.2.2.1,()),(x154.2.1,())),())
def Ag (bz:Int->Int->Int->T7->Int->(List Int)->Option T13):Cut:=⟨⟨[(0,.c (.lit (.row 3000000))),(1,.c (.int .i64)),(2,.c (.int .i64)),(3,.c (.int .i64)),(4,.c (.cap (.cap (.lit (.fn 92)) (.dp u5)) (.dp (.int .i64)))),(10,.c .bool),(11,.c .bool),(12,.c (.int .i64)),(13,.c (.int .i64)),(14,.c (.int .i64))],[(3000000,.row 2 (.int .i64))],[(3000000,some 3000000)]⟩,[(.exit 1,⟨[(0,.c (.lit (.row 3000000))),(1,.c (.int .i64)),(2,.c (.int .i64)),(3,.c (.int .i64)),(4,.c (.cap (.cap (.lit (.fn 92)) (.dp u5)) (.dp (.int .i64)))),(10,.c .bool),(11,.c .bool)],[(3000000,.row 2 (.int .i64))],[(3000000,some 3000000)]⟩),(.normal,⟨[(0,.c (.lit (.row 3000000))),(1,.c (.int .i64)),(2,.c (.int .i64)),(3,.c (.int .i64)),(4,.c (.cap (.cap (.lit (.fn 92)) (.dp u5)) (.dp (.int .i64)))),(10,.c .bool),(11,.c .bool)],[(3000000,.row 2 (.int .i64))],[(3000000,some 3000000)]⟩),(.ret,⟨[],[(3000000,.row 2 (.int .i64))],[(3000000,some 3000000)]⟩)],λρ k v nx=>lW bz k v.1.2.1 v.1.2.2.1 v.1.2.2.2.1 v.1.2.2.2.2.1.1.2 v.1.2.2.2.2.1.2 v.1.2.2.2.2.2.1 v.1.2.2.2.2.2.2.1 v.1.2.2.2.2.2.2.2.1 v.1.2.2.2.2.2.2.2.2.1 v.1.2.2.2.2.2.2.2.2.2.1 v.2.1 nx⟩
def pa {ρ:Type}(bz:Int->Int->Int->T7->Int->(List Int)->Option T13)(k:Nat)(v117 v118 v119:Int)(v120:T7)(v121:Int)(v122 v123:Bool)(v124:Int)(v125:(List Int))(nx:(((T31×T12)->Option ρ)×((T31×T12)->Option ρ)×(T13->Option ρ)×Unit)):Option ρ:=(f194 k v125 v117 v118 v120 v121).bind λx126=>bif(x126.1.2.1==2)then(f195 k v117 v118 v120 v121 v125).bind λx127=>let x128:Int:=(wr .i64 ((wr .i64 (v118-1))-(wr .i64 (x126.1.1-v117))));lW bz k v117 v118 v119 v120 v121 v122 v123 v124 x128 1 x127.2.1 (λx129:(T31×T12)=>nx.1 (((),x129.1.2.1,x129.1.2.2.1,x129.1.2.2.2.1,(((),x129.1.2.2.2.2.1.1.2),x129.1.2.2.2.2.1.2),x129.1.2.2.2.2.2.1,x129.1.2.2.2.2.2.2.1,()),(x129.2.1,())),λx130:(T31×T12)=>nx.2.1 (((),x130.1.2.1,x130.1.2.2.1,x130.1.2.2.2.1,(((),x130.1.2.2.2.2.1.1.2),x130.1.2.2.2.2.1.2),x130.1.2.2.2.2.2.1,x130.1.2.2.2.2.2.2.1,()),(x130.2.1,())),λx131:T13=>nx.2.2.1 ((),(x131.2.1,())),())else lW bz k v117 v118 v119 v120 v121 v122 v123 v124 x126.1.1 x126.1.2.1 v125 (λx132:(T31×T12)=>nx.1 (((),x132.1.2.1,x132.1.2.2.1,x132.1.2.2.2.1,(((),x132.1.2.2.2.2.1.1.2),x132.1.2.2.2.2.1.2),x132.1.2.2.2.2.2.1,x132.1.2.2.2.2.2.2.1,()),(x132.2.1,())),λx133:(T31×T12)=>nx.2.1 (((),x133.1.2.1,x133.1.2.2.1,x133.1.2.2.2.1,(((),x133.1.2.2.2.2.1.1.2),x133.1.2.2.2.2.1.2),x133.1.2.2.2.2.2.1,x133.1.2.2.2.2.2.2.1,()),(x133.2.1,())),λx134:T13=>nx.2.2.1 ((),(x134.2.1,())),())
def Af (bz:Int->Int->Int->T7->Int->(List Int)->Option T13):Cut:=⟨⟨[(0,.c (.lit (.row 3000000))),(1,.c (.int .i64)),(2,.c (.int .i64)),(3,.c (.int .i64)),(4,.c (.cap (.cap (.lit (.fn 92)) (.dp u5)) (.dp (.int .i64)))),(10,.c .bool),(11,.c .bool),(12,.c (.int .i64))],[(3000000,.row 2 (.int .i64))],[(3000000,some 3000000)]⟩,[(.exit 1,⟨[(0,.c (.lit (.row 3000000))),(1,.c (.int .i64)),(2,.c (.int .i64)),(3,.c (.int .i64)),(4,.c (.cap (.cap (.lit (.fn 92)) (.dp u5)) (.dp (.int .i64)))),(10,.c .bool),(11,.c .bool)],[(3000000,.row 2 (.int .i64))],[(3000000,some 3000000)]⟩),(.normal,⟨[(0,.c (.lit (.row 3000000))),(1,.c (.int .i64)),(2,.c (.int .i64)),(3,.c (.int .i64)),(4,.c (.cap (.cap (.lit (.fn 92)) (.dp u5)) (.dp (.int .i64)))),(10,.c .bool),(11,.c .bool)],[(3000000,.row 2 (.int .i64))],[(3000000,some 3000000)]⟩),(.ret,⟨[],[(3000000,.row 2 (.int .i64))],[(3000000,some 3000000)]⟩)],λρ k v nx=>pa bz k v.1.2.1 v.1.2.2.1 v.1.2.2.2.1 v.1.2.2.2.2.1.1.2 v.1.2.2.2.2.1.2 v.1.2.2.2.2.2.1 v.1.2.2.2.2.2.2.1 v.1.2.2.2.2.2.2.2.1 v.2.1 nx⟩
def fV {ρ:Type}(bz:Int->Int->Int->T7->Int->(List Int)->Option T13)(k:Nat):Nat->Int->Int->Int->T7->Int->Bool->Bool->(List Int)->((T13->Option ρ)×Unit)->Option ρ|0,_,_,_,_,_,_,_,_,_=>none|j+1,v98,v99,v100,v101,v102,v103,v104,v105,nx=>bif(decide ((wr .i64 (v99-v98))≤12))then(f191 k v98 v99 v101 v102 v105).bind λx107=>nx.1 ((),(x107.2.1,()))else bif(v100==0)then(f192 k v98 v99 v101 v102 v105).bind λx109=>nx.1 ((),(x109.2.1,()))else bif(!v103)then(f193 k v98 v99 v101 v102 v105).bind λx110=>pa bz k v98 v99 (wr .i64 (v100-1)) v101 v102 v103 v104 (wr .i64 (v99-v98)) x110.2.1 (λx111:(T31×T12)=>fV bz k j x111.1.2.1 x111.1.2.2.1 x111.1.2.2.2.1 x111.1.2.2.2.2.1.1.2 x111.1.2.2.2.2.1.2 x111.1.2.2.2.2.2.1 x111.1.2.2.2.2.2.2.1 x111.2.1 nx,λx112:(T31×T12)=>fV bz k j x112.1.2.1 x112.1.2.2.1 x112.1.2.2.2.1 x112.1.2.2.2.2.1.1.2 x112.1.2.2.2.2.1.2 x112.1.2.2.2.2.2.1 x112.1.2.2.2.2.2.2.1 x112.2.1 nx,λx113:T13=>nx.1 ((),(x113.2.1,())),())else pa bz k v98 v99 v100 v101 v102 v103 v104 (wr .i64 (v99-v98)) v105 (λx114:(T31×T12)=>fV bz k j x114.1.2.1 x114.1.2.2.1 x114.1.2.2.2.1 x114.1.2.2.2.2.1.1.2 x114.1.2.2.2.2.1.2 x114.1.2.2.2.2.2.1 x114.1.2.2.2.2.2.2.1 x114.2.1 nx,λx115:(T31×T12)=>fV bz k j x115.1.2.1 x115.1.2.2.1 x115.1.2.2.2.1 x115.1.2.2.2.2.1.1.2 x115.1.2.2.2.2.1.2 x115.1.2.2.2.2.2.1 x115.1.2.2.2.2.2.2.1 x115.2.1 nx,λx116:T13=>nx.1 ((),(x116.2.1,())),())
def C6 (bz:Int->Int->Int->T7->Int->(List Int)->Option T13)(k:Nat):Cut:=⟨⟨[(0,.c (.lit (.row 3000000))),(1,.c (.int .i64)),(2,.c (.int .i64)),(3,.c (.int .i64)),(4,.c (.cap (.cap (.lit (.fn 92)) (.dp u5)) (.dp (.int .i64)))),(10,.c .bool),(11,.c .bool)],[(3000000,.row 2 (.int .i64))],[(3000000,some 3000000)]⟩,[(.ret,⟨[],[(3000000,.row 2 (.int .i64))],[(3000000,some 3000000)]⟩)],λρ j v nx=>fV bz k j v.1.2.1 v.1.2.2.1 v.1.2.2.2.1 v.1.2.2.2.2.1.1.2 v.1.2.2.2.2.1.2 v.1.2.2.2.2.2.1 v.1.2.2.2.2.2.2.1 v.2.1 nx⟩
def f141 :Nat->Int->Int->Int->T7->Int->(List Int)->Option T13
 |0,_,_,_,_,_,_=>none
 |k+1,a1,a2,a3,a4,a5,a6=>
  fV (f141 k) k k a1 a2 a3 a4 a5 true true a6
   (λx97:T13=>some ((),(x97.2.1,())),
   ())
def Ik :af:=⟨141,⟨[(0,.c (.row 3000000)),(1,.c (.int .i64)),(2,.c (.int .i64)),(3,.c (.int .i64)),(4,.c (.cap (.cap (.lit (.fn 92)) (.dp u5)) (.dp (.int .i64))))],[(3000000,.row 2 (.int .i64))],[]⟩,⟨[],[(3000000,.row 2 (.int .i64))],[(3000000,some 3000000)]⟩,λk v=>f141 k v.1.2.1 v.1.2.2.1 v.1.2.2.2.1 v.1.2.2.2.2.1.1.2 v.1.2.2.2.2.1.2 v.2.1⟩
def ve (k:Nat):Full:=fl k 148 [Qg,Qh,Qi,Qj,Qk,Ql,tV,Qm,Qn,Ik] (cuts:=[(2,(C6 (f141 k) k))]) (joins:=[(20,(Ai (f141 k))),(17,(Ah (f141 k))),(15,(Ag (f141 k))),(10,(Af (f141 k)))])
theorem Lf (k:Nat):dh (ve k) (Ai (f141 k)) (cY Tryz.f141 20):=λρ v nx=>by kernel_rfl
theorem Ld (k:Nat):dh (ve k) (Ah (f141 k)) (cY Tryz.f141 17):=λρ v nx=>by kernel_rfl
theorem Lc (k:Nat):dh (ve k) (Ag (f141 k)) (cY Tryz.f141 15):=λρ v nx=>by kernel_rfl
theorem Lb (k:Nat):dh (ve k) (Af (f141 k)) (cY Tryz.f141 10):=λρ v nx=>by kernel_rfl
theorem NM (k:Nat):aF (ve k) (C6 (f141 k) k) (au Tryz.f141 2):=λρ v nx=>⟨by kernel_rfl,λj=>by kernel_rfl⟩
theorem YD :SN Ik:=sr Tryz.func141 ve (λk j h=>⟨Y4.at j,Y5.at j,Y6.at j,Y7.at j,Y8.at j,Y9.at j,xh.at j,Za.at j,Zb.at j,h,trivial⟩) (λ_=>by kernel_rfl) (λ_ _=>by kernel_rfl) (hob:=λk=>Eq.mpr (by kernel_rfl) (And.intro (Lf k) (And.intro (Ld k) (And.intro (Lc k) (And.intro (Lb k) (And.intro (NM k) (trivial)))))))
def f91 (k:Nat)(a1:T7)(a2:Int)(a3:(List Int)):Option T13:=
 (f142 k (wr .u64 (a3.length:Int))).bind λx3=>
 (f141 k 0 (a3.length:Int) x3.1.1 a1 a2 a3).bind λx4=>
 some ((),(x4.2.1,()))
def Vc :af:=⟨91,⟨[(0,.c (.row 3000000)),(1,.c (.cap (.cap (.lit (.fn 92)) (.dp u5)) (.dp (.int .i64))))],[(3000000,.row 2 (.int .i64))],[]⟩,⟨[],[(3000000,.row 2 (.int .i64))],[(3000000,some 3000000)]⟩,λk v=>f91 k v.1.2.1.1.2 v.1.2.1.2 v.2.1⟩
def aar (k:Nat):Full:=fl k 14 [Il,Ik]
theorem abD :SN Vc:=so Tryz.func91 aar (λ_ j=>⟨RV.at j,YD.at j,trivial⟩) (λ_ _=>by kernel_rfl)
def mX {ρ:Type}(k:Nat):Nat->(List T5)->Int->Int->T6->(List T5)->Int->(List Int)->(((T23×(T18×T0×(List Int)×Unit))->Option ρ)×Unit)->Option ρ|0,_,_,_,_,_,_,_,_=>none|j+1,v20,v21,v22,v23,v24,v25,v26,nx=>bif(decide (v22<v21))then(aq v20 v22).bind λx27=>bif(x27.1==v25)then bif decide ((v26.length+[v22].length)*8≤roomy)then mX k j v20 v21 (wr .i64 (v22+1)) v23 v24 v25 (v26++[v22]) nx else none else bif(x27.2.1==v25)then bif decide ((v26.length+[v22].length)*8≤roomy)then mX k j v20 v21 (wr .i64 (v22+1)) v23 v24 v25 (v26++[v22]) nx else none else mX k j v20 v21 (wr .i64 (v22+1)) v23 v24 v25 v26 nx else nx.1 (((),(),(),()),((v23,v24,()),(v25,()),v26,()))
def GG (k:Nat):Cut:=⟨⟨[(2,.c (.box 5000000)),(3,.c (.box 5000001)),(5,.c (.row 5000002)),(9,.c (.sl u1)),(10,.c (.int .i64)),(11,.c (.int .i64))],[(5000000,.box 31 k2),(5000001,.box 2 k4),(5000002,.row 2 (.int .i64))],[]⟩,[(.exit 0,⟨[(2,.c (.box 5000000)),(3,.c (.box 5000001)),(5,.c (.row 5000002))],[(5000000,.box 31 k2),(5000001,.box 2 k4),(5000002,.row 2 (.int .i64))],[]⟩)],λρ j v nx=>mX k j v.1.2.2.2.1 v.1.2.2.2.2.1 v.1.2.2.2.2.2.1 v.2.1.1 v.2.1.2.1 v.2.2.1.1 v.2.2.2.1 nx⟩
def f53 (k:Nat)(a1:T6)(a2:(List T5))(a3:Int):Option (T1×T12):=
 mX k k a2 (a2.length:Int) 0 a1 a2 a3 ([]:List Int)
  (λx18:(T23×(T18×T0×(List Int)×Unit))=>
   (f91 k (x18.2.1.1,x18.2.1.2.1) x18.2.2.1.1 x18.2.2.2.1).bind λx19=>
   some (((),()),(x19.2.1,())),
  ())
def IG :af:=⟨53,⟨[(0,.agg k2),(1,.c (.int .i64))],[],[]⟩,⟨[(0,.c (.row 4000000))],[(4000000,.row 2 (.int .i64))],[]⟩,λk v=>f53 k v.1.1.1 v.1.1.2.1 v.1.2.1⟩
def VD (k:Nat):Full:=fl k 35 [Vc] (cuts:=[(3,(GG k))])
theorem S6 (k:Nat):aF (VD k) (GG k) (au Tryz.f53 3):=λρ v nx=>⟨by kernel_rfl,λj=>by kernel_rfl⟩
theorem O8 :SN IG:=so Tryz.func53 VD (λ_ j=>⟨abD.at j,trivial⟩) (λ_ _=>by kernel_rfl) (hob:=λk=>Eq.mpr (by kernel_rfl) (And.intro (S6 k) (trivial)))
def f52 (k:Nat)(a1:(List Int)):Option (T0×Unit):=
 some (((a1.length:Int),()),())
def MM :af:=ee 52 [(0,.c (.sl (.int .i64)))] [(0,.c (.int .i64))] λk v=>f52 k v.1.1
def Z9 (k:Nat):Full:=fl k 5 []
theorem Wu :SN MM:=so Tryz.func52 Z9 (λ_ _=>trivial) (λ_ _=>by kernel_rfl)
def f96 (k:Nat)(a1 a2 a3 a4:Int):Option (T2×Unit):=bif(a3==1)then bif(a1==a4)then some ((true,()),())else some (((a2==a4),()),())else some ((false,()),())
def Ve :af:=ee 96 [(0,.agg k0),(1,.c (.dp (.int .i64)))] [(0,.c .bool)] λk v=>f96 k v.1.1.1 v.1.1.2.1 v.1.1.2.2.1 v.1.2.1
def aaw (k:Nat):Full:=fl k 19 []
theorem abF :SN Ve:=so Tryz.func96 aaw (λ_ _=>trivial) (λ_ _=>by kernel_rfl)
def lX {ρ:Type}(k:Nat):Nat->(List T5)->Int->Int->Int->((T1->Option ρ)×((T0×Unit)->Option ρ)×Unit)->Option ρ|0,_,_,_,_,_=>none|j+1,v11,v12,v13,v14,nx=>bif(decide (v14<v13))then(aq v11 v14).bind λx15=>(f96 k x15.1 x15.2.1 x15.2.2 v12).bind λx16=>bif x16.1.1 then nx.2.1 ((v14,()),())else lX k j v11 v12 v13 (wr .i64 (v14+1)) nx else nx.1 ((),())
def Aj (k:Nat):Cut:=⟨⟨[(0,.c (.sl u1)),(1,.c (.cap (.lit (.fn 96)) (.dp (.int .i64)))),(7,.c (.int .i64)),(8,.c (.int .i64))],[],[]⟩,[(.exit 0,⟨[],[],[]⟩),(.ret,⟨[(4,.c (.int .i64))],[],[]⟩)],λρ j v nx=>lX k j v.1.1 v.1.2.1.2 v.1.2.2.1 v.1.2.2.2.1 nx⟩
def IR (k:Nat)(a1:(List T5))(a2:Int):Option (T0×Unit):=
 lX k k a1 a2 (a1.length:Int) 0
  (λx9:T1=>some (((-1),()),()),
  λx10:(T0×Unit)=>some ((x10.1.1,()),()),
  ())
def KE :af:=ee 145 [(0,.c (.sl u1)),(1,.c (.cap (.lit (.fn 96)) (.dp (.int .i64))))] [(0,.c (.int .i64))] λk v=>IR k v.1.1 v.1.2.1.2
def KL (k:Nat):Full:=fl k 19 [Ve] (cuts:=[(2,(Aj k))])
theorem Lg (k:Nat):aF (KL k) (Aj k) (au Tryz.f145 2):=λρ v nx=>⟨by kernel_rfl,λj=>by kernel_rfl⟩
theorem Wi :SN KE:=so Tryz.func145 KL (λ_ j=>⟨abF.at j,trivial⟩) (λ_ _=>by kernel_rfl) (hob:=λk=>Eq.mpr (by kernel_rfl) (And.intro (Lg k) (trivial)))
def MZ (k:Nat)(a1:(List T5))(a2:Int):Option (T2×Unit):=
 (IR k a1 a2).bind λx2=>
 some (((decide (x2.1.1≥0)),()),())
def QT :af:=ee 95 [(0,.c (.sl u1)),(1,.c (.cap (.lit (.fn 96)) (.dp (.int .i64))))] [(0,.c .bool)] λk v=>MZ k v.1.1 v.1.2.1.2
def Yg (k:Nat):Full:=fl k 9 [KE]
theorem ZH :SN QT:=so Tryz.func95 Yg (λ_ j=>⟨Wi.at j,trivial⟩) (λ_ _=>by kernel_rfl)
def f54 (k:Nat)(a1:T6)(a2:(List T5))(a3:Int):Option (T2×Unit):=
 (MZ k a2 a3).bind λx2=>
 some ((x2.1.1,()),())
def zj :af:=ee 54 [(0,.agg k2),(1,.c (.int .i64))] [(0,.c .bool)] λk v=>f54 k v.1.1.1 v.1.1.2.1 v.1.2.1
def aaa (k:Nat):Full:=fl k 9 [QT]
theorem E6 :SN zj:=so Tryz.func54 aaa (λ_ j=>⟨ZH.at j,trivial⟩) (λ_ _=>by kernel_rfl)
def ov {ρ:Type}(k:Nat):Nat->Int->Int->Int->T6->(List T5)->(List Int)->(List Int)->(((T1×T12)->Option ρ)×Unit)->Option ρ|0,_,_,_,_,_,_,_,_=>none|j+1,v22,v23,v24,v25,v26,v27,v28,nx=>bif(decide (v24<v23))then bif decide (0≤v24)&&decide (v24<(v28.length:Int))then(v28[v24.toNat]?).bind λx29=>(f94 k v25 v26 x29 v22).bind λx30=>bif decide ((v27.length+[x30.1.1].length)*8≤roomy)then ov k j v22 v23 (wr .i64 (v24+1)) v25 v26 (v27++[x30.1.1]) v28 nx else none else none else nx.1 (((),()),(v27,()))
def C8 (k:Nat):Cut:=⟨⟨[(1,.c (.int .i64)),(2,.c (.box 5000000)),(5,.c (.row 5000001)),(10,.c (.row 5000002)),(11,.c (.int .i64)),(12,.c (.int .i64))],[(5000000,.box 31 k2),(5000001,.row 2 (.int .i64)),(5000002,.row 2 (.int .i64))],[]⟩,[(.exit 0,⟨[(5,.c (.row 5000000))],[(5000000,.row 2 (.int .i64))],[]⟩)],λρ j v nx=>ov k j v.1.1 v.1.2.2.2.2.1 v.1.2.2.2.2.2.1 v.2.1.1 v.2.1.2.1 v.2.2.1 v.2.2.2.1 nx⟩
def f147 (k:Nat)(a1:T6)(a2:(List T5))(a3:Int):Option (T1×T12):=
 (f53 k a1 a2 a3).bind λx20=>
 ov k k a3 (x20.2.1.length:Int) 0 a1 a2 ([]:List Int) x20.2.1
  (λx21:(T1×T12)=>some (((),()),(x21.2.1,())),
  ())
def PV :af:=⟨147,⟨[(0,.agg k2),(1,.c (.int .i64))],[],[]⟩,⟨[(0,.c (.row 4000000))],[(4000000,.row 2 (.int .i64))],[]⟩,λk v=>f147 k v.1.1.1 v.1.1.2.1 v.1.2.1⟩
def Rb (k:Nat):Full:=fl k 25 [IG,MS] (cuts:=[(3,(C8 k))])
theorem NO (k:Nat):aF (Rb k) (C8 k) (au Tryz.f147 3):=λρ v nx=>⟨by kernel_rfl,λj=>by kernel_rfl⟩
theorem YI :SN PV:=so Tryz.func147 Rb (λ_ j=>⟨O8.at j,WA.at j,trivial⟩) (λ_ _=>by kernel_rfl) (hob:=λk=>Eq.mpr (by kernel_rfl) (And.intro (NO k) (trivial)))
def lY {ρ:Type}(k:Nat):Nat->(List Int)->(List Int)->Int->Int->(List Int)->(((T1×T12)->Option ρ)×Unit)->Option ρ|0,_,_,_,_,_,_=>none|j+1,v21,v22,v23,v24,v25,nx=>bif(decide (v24<v23))then(aq v22 v24).bind λx26=>(aq v21 0).bind λx27=>let x28:Bool:=(decide ((wr .i64 (v24+1))<(v21.length:Int)));bif x28 then(aq v21 (wr .i64 (v24+1))).bind λx29=>bif decide ((v25.length+[(wr .i64 (x29-x26))].length)*8≤roomy)then lY k j v21 v22 v23 (wr .i64 (v24+1)) (v25++[(wr .i64 (x29-x26))]) nx else none else bif decide ((v25.length+[(wr .i64 ((wr .i64 (x27+16))-x26))].length)*8≤roomy)then let x30:(List Int):=(v25++[(wr .i64 ((wr .i64 (x27+16))-x26))]);lY k j v21 v22 v23 (wr .i64 (v24+1)) x30 nx else none else nx.1 (((),()),(v25,()))
def C9 (k:Nat):Cut:=⟨⟨[(0,.c (.sl (.int .i64))),(3,.c (.row 5000000)),(7,.c (.sl (.int .i64))),(8,.c (.int .i64)),(9,.c (.int .i64))],[(5000000,.row 2 (.int .i64))],[]⟩,[(.exit 0,⟨[(3,.c (.row 5000000))],[(5000000,.row 2 (.int .i64))],[]⟩)],λρ j v nx=>lY k j v.1.1 v.1.2.2.1 v.1.2.2.2.1 v.1.2.2.2.2.1 v.2.1 nx⟩
def f148 (k:Nat)(a1:(List Int)):Option (T1×T12):=
 lY k k a1 a1 (a1.length:Int) 0 ([]:List Int)
  (λx20:(T1×T12)=>some (((),()),(x20.2.1,())),
  ())
def PW :af:=⟨148,⟨[(0,.c (.sl (.int .i64)))],[],[]⟩,⟨[(0,.c (.row 4000000))],[(4000000,.row 2 (.int .i64))],[]⟩,λk v=>f148 k v.1.1⟩
def Rc (k:Nat):Full:=fl k 36 [] (cuts:=[(3,(C9 k))])
theorem NP (k:Nat):aF (Rc k) (C9 k) (au Tryz.f148 3):=λρ v nx=>⟨by kernel_rfl,λj=>by kernel_rfl⟩
theorem YJ :SN PW:=so Tryz.func148 Rc (λ_ _=>trivial) (λ_ _=>by kernel_rfl) (hob:=λk=>Eq.mpr (by kernel_rfl) (And.intro (NP k) (trivial)))
def zp {ρ:Type}(k:Nat):Nat->Int->Int->Nat->(List Int)->((T13->Option ρ)×Unit)->Option ρ|0,_,_,_,_,_=>none|j+1,v14,v15,v16,v17,nx=>bif(decide (v14<v15))then bif decide (0≤v15)&&decide (v15<((v17.length-v16:Nat):Int))then(v17[(v16+v15.toNat)]?).bind λx18=>bif decide (0≤v14)&&decide (v14<((v17.length-v16:Nat):Int))then(v17[(v16+v14.toNat)]?).bind λx19=>bif decide (0≤v14)&&decide (v14<((v17.length-v16:Nat):Int))then(v17[(v16+v14.toNat)]?).bind λ_=>bif decide (0≤v15)&&decide (v15<(((v17.set (v16+v14.toNat) x18).length-v16:Nat):Int))then((v17.set (v16+v14.toNat) x18)[(v16+v15.toNat)]?).bind λ_=>let x22:(List Int):=((v17.set (v16+v14.toNat) x18).set (v16+v15.toNat) x19);zp k j (wr .i64 (v14+1)) (wr .i64 (v15-1)) v16 x22 nx else none else none else none else none else nx.1 ((),(v17,()))
def DC (k:Nat):Cut:=⟨⟨[(2,.c (.int .i64)),(3,.c (.int .i64)),(0,.c (.tail 3000000 1))],[(3000000,.row 2 (.int .i64))],[(3000000,some 3000000)]⟩,[(.exit 0,⟨[],[(3000000,.row 2 (.int .i64))],[(3000000,some 3000000)]⟩)],λρ j v nx=>zp k j v.1.1 v.1.2.1 v.1.2.2.1 v.2.1 nx⟩
def f204 (k:Nat)(a1:Nat)(a2:(List Int)):Option T13:=
 let x12:Int:=(wr .i64 (((a2.length-a1:Nat):Int)-1))
 zp k k 0 x12 a1 a2
  (λx13:T13=>some ((),(x13.2.1,())),
  ())
def Qr :af:=⟨204,⟨[(0,.c (.tailr 3000000 1))],[(3000000,.row 2 (.int .i64))],[]⟩,⟨[],[(3000000,.row 2 (.int .i64))],[(3000000,some 3000000)]⟩,λk v=>f204 k v.1.1 v.2.1⟩
def Rr (k:Nat):Full:=fl k 28 [] (cuts:=[(1,(DC k))]) (touch:=[(3,[(13,[3000000]),(15,[3000000])])])
theorem Oh (k:Nat):aF (Rr k) (DC k) (au Tryz.f204 1):=λρ v nx=>⟨by kernel_rfl,λj=>by kernel_rfl⟩
theorem Zf :SN Qr:=so Tryz.func204 Rr (λ_ _=>trivial) (λ_ _=>by kernel_rfl) (hob:=λk=>Eq.mpr (by kernel_rfl) (And.intro (Oh k) (trivial)))
def f149 (k:Nat)(a1:T6)(a2:(List T5)):Option (T1×T12):=(f113 k a1 a2).bind λx7=>(f116 k a1 a2 x7.2.1).bind λx8=>(f115 k x8.2.1).bind λx9=>(f169 k x9.2.1).bind λx10=>(f203 k x10.2.1).bind λx11=>bif(!x11.1.1)then bif decide (0≤1)&&decide (1≤(x7.2.1.length:Int))then(f204 k 1 x7.2.1).bind λx12=>some (((),()),(x12.2.1,()))else none else some (((),()),(x7.2.1,()))
def PX :af:=⟨149,⟨[(0,.agg k2)],[],[]⟩,⟨[(0,.c (.row 4000000))],[(4000000,.row 2 (.int .i64))],[]⟩,λk v=>f149 k v.1.1.1 v.1.1.2.1⟩
def Xj (k:Nat):Full:=fl k 23 [H9,Ib,Ia,B7,Ix,Qr] (tails:=[20])
theorem YK :SN PX:=so Tryz.func149 Xj (λ_ j=>⟨RL.at j,RN.at j,RM.at j,JL.at j,R7.at j,Zf.at j,trivial⟩) (λ_ _=>by kernel_rfl)
def ow {ρ:Type}(k:Nat):Nat->(List Int)->Int->Int->Int->((T1->Option ρ)×((T0×Unit)->Option ρ)×Unit)->Option ρ|0,_,_,_,_,_=>none|j+1,v10,v11,v12,v13,nx=>bif(decide (v13<v12))then(aq v10 v13).bind λx14=>bif(v11==x14)then nx.2.1 ((v13,()),())else ow k j v10 v11 v12 (wr .i64 (v13+1)) nx else nx.1 ((),())
def Da (k:Nat):Cut:=⟨⟨[(0,.c (.sl (.int .i64))),(1,.c (.int .i64)),(7,.c (.int .i64)),(8,.c (.int .i64))],[],[]⟩,[(.exit 0,⟨[],[],[]⟩),(.ret,⟨[(4,.c (.int .i64))],[],[]⟩)],λρ j v nx=>ow k j v.1.1 v.1.2.1 v.1.2.2.1 v.1.2.2.2.1 nx⟩
def f150 (k:Nat)(a1:(List Int))(a2:Int):Option (T0×Unit):=
 ow k k a1 a2 (a1.length:Int) 0
  (λx8:T1=>some (((-1),()),()),
  λx9:(T0×Unit)=>some ((x9.1.1,()),()),
  ())
def Im :af:=ee 150 [(0,.c (.sl (.int .i64))),(1,.c (.int .i64))] [(0,.c (.int .i64))] λk v=>f150 k v.1.1 v.1.2.1
def Re (k:Nat):Full:=fl k 19 [] (cuts:=[(2,(Da k))])
theorem NQ (k:Nat):aF (Re k) (Da k) (au Tryz.f150 2):=λρ v nx=>⟨by kernel_rfl,λj=>by kernel_rfl⟩
theorem RW :SN Im:=so Tryz.func150 Re (λ_ _=>trivial) (λ_ _=>by kernel_rfl) (hob:=λk=>Eq.mpr (by kernel_rfl) (And.intro (NQ k) (trivial)))
def f232 (k:Nat)(a1:Int):Option (T1×T12):=bif(decide (a1<0))then none else let x3:Bool:=(decide ((wr .i64 (a1-(wr .i64 (0-0))))>0));bif x3 then bif decide (0≤(wr .i64 (a1-(wr .i64 (0-0)))))&&decide ((wr .i64 (a1-(wr .i64 (0-0))))*8≤roomy)then let x4:(List Int):=(List.replicate (wr .i64 (a1-(wr .i64 (0-0)))).toNat (0:Int));bif decide (0≤0)&&decide (0≤(x4.length:Int))then some (((),()),((x4.take 0),()))else none else none else some (((),()),(([]:List Int),()))
def QL :af:=⟨232,⟨[(0,.c (.lit .nils)),(1,.c (.int .i64))],[],[]⟩,⟨[(0,.c (.row 4000000))],[(4000000,.row 2 (.int .i64))],[]⟩,λk v=>f232 k v.1.2.1⟩
def Yc (k:Nat):Full:=fl k 27 [] (trunc:=[25])
theorem Zz :SN QL:=so Tryz.func232 Yc (λ_ _=>trivial) (λ_ _=>by kernel_rfl)
def zq {ρ:Type}(k:Nat):Nat->(List (List Int))->Int->(List (List Int))->Int->Int->(((((List (List Int))×Int×Unit)×Unit)->Option ρ)×Unit)->Option ρ|0,_,_,_,_,_,_=>none|j+1,v21,v22,v23,v24,v25,nx=>bif(decide (v25<v24))then(aq v23 v25).bind λx26=>let x27:Bool:=(decide ((wr .i64 (v22+(x26.length:Int)))<0));bif x27 then none else zq k j v21 (wr .i64 (v22+(x26.length:Int))) v23 v24 (wr .i64 (v25+1)) nx else nx.1 ((v21,v22,()),())
def DD (k:Nat):Cut:=⟨⟨[(0,.c (.sl (.sl (.int .i64)))),(3,.c (.int .i64)),(9,.c (.sl (.sl (.int .i64)))),(10,.c (.int .i64)),(11,.c (.int .i64))],[],[]⟩,[(.exit 0,⟨[(0,.c (.sl (.sl (.int .i64)))),(3,.c (.int .i64))],[],[]⟩)],λρ j v nx=>zq k j v.1.1 v.1.2.1 v.1.2.2.1 v.1.2.2.2.1 v.1.2.2.2.2.1 nx⟩
def wY {ρ:Type}(k:Nat):Nat->(List (List Int))->Int->Int->(List Int)->(((T1×T12)->Option ρ)×Unit)->Option ρ|0,_,_,_,_,_=>none|j+1,v28,v29,v30,v31,nx=>bif(decide (v30<v29))then(aq v28 v30).bind λx32=>bif decide ((v31.length+x32.length)*8≤roomy)then wY k j v28 v29 (wr .i64 (v30+1)) (v31++x32) nx else none else nx.1 (((),()),(v31,()))
def Au (k:Nat):Cut:=⟨⟨[(6,.c (.row 5000000)),(25,.c (.sl (.sl (.int .i64)))),(26,.c (.int .i64)),(27,.c (.int .i64))],[(5000000,.row 2 (.int .i64))],[]⟩,[(.exit 2,⟨[(6,.c (.row 5000000))],[(5000000,.row 2 (.int .i64))],[]⟩)],λρ j v nx=>wY k j v.1.2.1 v.1.2.2.1 v.1.2.2.2.1 v.2.1 nx⟩
def f205 (k:Nat)(a1:(List (List Int))):Option (T1×T12):=
 zq k k a1 0 a1 (a1.length:Int) 0
  (λx18:(((List (List Int))×Int×Unit)×Unit)=>
   (f232 k x18.1.2.1).bind λx19=>
   wY k k x18.1.1 (x18.1.1.length:Int) 0 x19.2.1
    (λx20:(T1×T12)=>some (((),()),(x20.2.1,())),
    ()),
  ())
def Qs :af:=⟨205,⟨[(0,.c (.sl (.sl (.int .i64))))],[],[]⟩,⟨[(0,.c (.row 4000000))],[(4000000,.row 2 (.int .i64))],[]⟩,λk v=>f205 k v.1.1⟩
def I4 (k:Nat):Full:=fl k 36 [QL] (cuts:=[(3,(DD k)),(11,(Au k))])
theorem Oi (k:Nat):aF (I4 k) (DD k) (au Tryz.f205 3):=λρ v nx=>⟨by kernel_rfl,λj=>by kernel_rfl⟩
theorem Ls (k:Nat):aF (I4 k) (Au k) (au Tryz.f205 11):=λρ v nx=>⟨by kernel_rfl,λj=>by kernel_rfl⟩
theorem Zg :SN Qs:=so Tryz.func205 I4 (λ_ j=>⟨Zz.at j,trivial⟩) (λ_ _=>by kernel_rfl) (hob:=λk=>Eq.mpr (by kernel_rfl) (And.intro (Oi k) (And.intro (Ls k) (trivial))))
def f151 (k:Nat)(a1:(List Int))(a2:Int):Option (T1×T12):=bif decide (0≤a2)&&decide (a2≤(a1.length:Int))&&decide ((a1.length:Int)≤(a1.length:Int))then bif decide (0≤0)&&decide (0≤a2)&&decide (a2≤(a1.length:Int))then(f205 k ([(sub a1 a2 (a1.length:Int)),(sub a1 0 a2)])).bind λx2=>some (((),()),(x2.2.1,()))else none else none
def PY :af:=⟨151,⟨[(0,.c (.sl (.int .i64))),(1,.c (.int .i64))],[],[]⟩,⟨[(0,.c (.row 4000000))],[(4000000,.row 2 (.int .i64))],[]⟩,λk v=>f151 k v.1.1 v.1.2.1⟩
def Xk (k:Nat):Full:=fl k 13 [Qs]
theorem YL :SN PY:=so Tryz.func151 Xk (λ_ j=>⟨Zg.at j,trivial⟩) (λ_ _=>by kernel_rfl)
def f98 (k:Nat)(a1:T6)(a2:(List T5))(a3:Int):Option (T1×T12):=(f147 k a1 a2 a3).bind λx17=>(f54 k a1 a2 a3).bind λx20=>bif(!x20.1.1)then(f148 k x17.2.1).bind λx21=>some (((),()),(x21.2.1,()))else(f149 k a1 a2).bind λx22=>(f150 k x22.2.1 a3).bind λx23=>bif decide ((x22.2.1.length:Int)=0)then none else let x24:Int:=((wr .i64 (x23.1.1+1)).tmod (x22.2.1.length:Int));bif decide (0≤x24)&&decide (x24<(x22.2.1.length:Int))then(x22.2.1[x24.toNat]?).bind λx25=>(aq a1 a3).bind λx26=>(aq a1 x25).bind λx27=>(f108 k x26.1.1 x26.1.2.1 x26.1.2.2 x26.2.1 x26.2.2.1 x26.2.2.2 x27.1.1 x27.1.2.1 x27.1.2.2 x27.2.1 x27.2.2.1 x27.2.2.2).bind λx28=>(f150 k x17.2.1 x28.1.1).bind λx29=>(f148 k x17.2.1).bind λx30=>(f151 k x30.2.1 x29.1.1).bind λx31=>bif decide (0≤(wr .i64 ((x17.2.1.length:Int)-1)))&&decide ((wr .i64 ((x17.2.1.length:Int)-1))≤(x31.2.1.length:Int))then let x32:(List Int):=(x31.2.1.take (wr .i64 ((x17.2.1.length:Int)-1)).toNat);some (((),()),(x32,()))else none else none
def MT :af:=⟨98,⟨[(0,.agg k2),(1,.c (.int .i64))],[],[]⟩,⟨[(0,.c (.row 4000000))],[(4000000,.row 2 (.int .i64))],[]⟩,λk v=>f98 k v.1.1.1 v.1.1.2.1 v.1.2.1⟩
def aay (k:Nat):Full:=fl k 51 [PV,zj,PW,PX,Im,qa,PY] (trunc:=[50])
theorem WB :SN MT:=so Tryz.func98 aay (λ_ j=>⟨YI.at j,E6.at j,YJ.at j,YK.at j,RW.at j,te.at j,YL.at j,trivial⟩) (λ_ _=>by kernel_rfl)
def f229 (k:Nat)(a1:Int):Option (T2×Unit):=
 (f90 k a1 1 16).bind λx2=>
 some (((!x2.1.1),()),())
def QI :af:=ee 229 [(0,.c (.int .i64))] [(0,.c .bool)] λk v=>f229 k v.1.1
def Ya (k:Nat):Full:=fl k 6 [wT]
theorem Zw :SN QI:=so Tryz.func229 Ya (λ_ j=>⟨zM.at j,trivial⟩) (λ_ _=>by kernel_rfl)
def oS {ρ:Type}(k:Nat):Nat->(List Int)->Int->Int->((T1->Option ρ)×((T0×Unit)->Option ρ)×Unit)->Option ρ|0,_,_,_,_=>none|j+1,v10,v11,v12,nx=>bif(decide (v12<v11))then(aq v10 v12).bind λx13=>(f229 k x13).bind λx14=>bif x14.1.1 then nx.2.1 ((v12,()),())else oS k j v10 v11 (wr .i64 (v12+1)) nx else nx.1 ((),())
def DS (k:Nat):Cut:=⟨⟨[(0,.c (.sl (.int .i64))),(1,.c (.lit (.fn 229))),(7,.c (.int .i64)),(8,.c (.int .i64))],[],[]⟩,[(.exit 0,⟨[],[],[]⟩),(.ret,⟨[(4,.c (.int .i64))],[],[]⟩)],λρ j v nx=>oS k j v.1.1 v.1.2.2.1 v.1.2.2.2.1 nx⟩
def f241 (k:Nat)(a1:(List Int)):Option (T0×Unit):=
 oS k k a1 (a1.length:Int) 0
  (λx8:T1=>some (((-1),()),()),
  λx9:(T0×Unit)=>some ((x9.1.1,()),()),
  ())
def QS :af:=ee 241 [(0,.c (.sl (.int .i64))),(1,.c (.lit (.fn 229)))] [(0,.c (.int .i64))] λk v=>f241 k v.1.1
def Rx (k:Nat):Full:=fl k 19 [QI] (cuts:=[(2,(DS k))])
theorem OB (k:Nat):aF (Rx k) (DS k) (au Tryz.f241 2):=λρ v nx=>⟨by kernel_rfl,λj=>by kernel_rfl⟩
theorem ZG :SN QS:=so Tryz.func241 Rx (λ_ j=>⟨Zw.at j,trivial⟩) (λ_ _=>by kernel_rfl) (hob:=λk=>Eq.mpr (by kernel_rfl) (And.intro (OB k) (trivial)))
def f228 (k:Nat)(a1:(List Int)):Option (T2×Unit):=
 (f241 k a1).bind λx2=>
 some (((decide (x2.1.1≥0)),()),())
def QH :af:=ee 228 [(0,.c (.sl (.int .i64))),(1,.c (.lit (.fn 229)))] [(0,.c .bool)] λk v=>f228 k v.1.1
def X9 (k:Nat):Full:=fl k 9 [QS]
theorem Zv :SN QH:=so Tryz.func228 X9 (λ_ j=>⟨ZG.at j,trivial⟩) (λ_ _=>by kernel_rfl)
def oP {ρ:Type}(k:Nat):Nat->Int->(List Int)->Int->Int->(((T0×Unit)->Option ρ)×Unit)->Option ρ|0,_,_,_,_,_=>none|j+1,v8,v9,v10,v11,nx=>bif(decide (v11<v10))then(aq v9 v11).bind λx12=>oP k j (wr .i64 (v8+x12)) v9 v10 (wr .i64 (v11+1)) nx else nx.1 ((v8,()),())
def DL (k:Nat):Cut:=⟨⟨[(3,.c (.int .i64)),(6,.c (.sl (.int .i64))),(7,.c (.int .i64)),(8,.c (.int .i64))],[],[]⟩,[(.exit 0,⟨[(3,.c (.int .i64))],[],[]⟩)],λρ j v nx=>oP k j v.1.1 v.1.2.1 v.1.2.2.1 v.1.2.2.2.1 nx⟩
def f230 (k:Nat)(a1:(List Int)):Option (T0×Unit):=
 oP k k 0 a1 (a1.length:Int) 0
  (λx7:(T0×Unit)=>some ((x7.1.1,()),()),
  ())
def QJ :af:=ee 230 [(0,.c (.sl (.int .i64)))] [(0,.c (.int .i64))] λk v=>f230 k v.1.1
def Rt (k:Nat):Full:=fl k 17 [] (cuts:=[(3,(DL k))])
theorem Ou (k:Nat):aF (Rt k) (DL k) (au Tryz.f230 3):=λρ v nx=>⟨by kernel_rfl,λj=>by kernel_rfl⟩
theorem Zx :SN QJ:=so Tryz.func230 Rt (λ_ _=>trivial) (λ_ _=>by kernel_rfl) (hob:=λk=>Eq.mpr (by kernel_rfl) (And.intro (Ou k) (trivial)))
def f201 (k:Nat)(a1:(List Int)):Option (T2×Unit):=bif(decide ((a1.length:Int)≤16))then(f228 k a1).bind λx3=>bif(!x3.1.1)then(f230 k a1).bind λx4=>some (((x4.1.1==16),()),())else some ((false,()),())else some ((false,()),())
def Qp :af:=ee 201 [(0,.c (.sl (.int .i64)))] [(0,.c .bool)] λk v=>f201 k v.1.1
def XP (k:Nat):Full:=fl k 16 [QH,QJ]
theorem Zd :SN Qp:=so Tryz.func201 XP (λ_ j=>⟨Zv.at j,Zx.at j,trivial⟩) (λ_ _=>by kernel_rfl)
end Go.Proofs.YtlkkaielmdlefaaGreatDoor.R
set_option linter.unusedVariables false
namespace Go.Proofs.YtlkkaielmdlefaaGreatDoor.R
open R1
def mo {ρ:Type}(k:Nat):Nat->Int->(List Int)->Int->Int->(((T0×Unit)->Option ρ)×Unit)->Option ρ|0,_,_,_,_,_=>none|j+1,v8,v9,v10,v11,nx=>bif(decide (v11<v10))then(aq v9 v11).bind λx12=>bif((v11.tmod 2)==0)then mo k j (wr .i64 (v8+x12)) v9 v10 (wr .i64 (v11+1)) nx else mo k j (wr .i64 (v8-x12)) v9 v10 (wr .i64 (v11+1)) nx else nx.1 ((v8,()),())
def DA (k:Nat):Cut:=⟨⟨[(3,.c (.int .i64)),(6,.c (.sl (.int .i64))),(7,.c (.int .i64)),(8,.c (.int .i64))],[],[]⟩,[(.exit 0,⟨[(3,.c (.int .i64))],[],[]⟩)],λρ j v nx=>mo k j v.1.1 v.1.2.1 v.1.2.2.1 v.1.2.2.2.1 nx⟩
def f202 (k:Nat)(a1:(List Int)):Option (T0×Unit):=
 mo k k 0 a1 (a1.length:Int) 0
  (λx7:(T0×Unit)=>some ((x7.1.1,()),()),
  ())
def Qq :af:=ee 202 [(0,.c (.sl (.int .i64)))] [(0,.c (.int .i64))] λk v=>f202 k v.1.1
def Ro (k:Nat):Full:=fl k 24 [] (cuts:=[(3,(DA k))])
theorem Of (k:Nat):aF (Ro k) (DA k) (au Tryz.f202 3):=λρ v nx=>⟨by kernel_rfl,λj=>by kernel_rfl⟩
theorem Ze :SN Qq:=so Tryz.func202 Ro (λ_ _=>trivial) (λ_ _=>by kernel_rfl) (hob:=λk=>Eq.mpr (by kernel_rfl) (And.intro (Of k) (trivial)))
def f146 (k:Nat)(a1:(List Int)):Option ((Int×Bool×Unit)×Unit):=(f201 k a1).bind λx3=>bif(!x3.1.1)then some ((0,false,()),())else bif(((a1.length:Int).tmod 2)==1)then some ((0,false,()),())else(f202 k a1).bind λx4=>some ((x4.1.1,true,()),())
def PU :af:=ee 146 [(0,.c (.sl (.int .i64)))] [(0,.c (.int .i64)),(1,.c .bool)] λk v=>f146 k v.1.1
def Xi (k:Nat):Full:=fl k 15 [Qp,Qq]
theorem YH :SN PU:=so Tryz.func146 Xi (λ_ j=>⟨Zd.at j,Ze.at j,trivial⟩) (λ_ _=>by kernel_rfl)
def f97 (k:Nat)(a1:(List Int)):Option (T2×Unit):=(f146 k a1).bind λx2=>bif x2.1.2.1 then some (((x2.1.1==0),()),())else some ((false,()),())
def Vf :af:=ee 97 [(0,.c (.sl (.int .i64)))] [(0,.c .bool)] λk v=>f97 k v.1.1
def aax (k:Nat):Full:=fl k 15 [PU]
theorem abG :SN Vf:=so Tryz.func97 aax (λ_ j=>⟨YH.at j,trivial⟩) (λ_ _=>by kernel_rfl)
def f55 (k:Nat)(a1:T6)(a2:(List T5))(a3:Int):Option (T2×Unit):=(f54 k a1 a2 a3).bind λx4=>bif x4.1.1 then some ((true,()),())else(f98 k a1 a2 a3).bind λx5=>(f97 k x5.2.1).bind λx6=>some ((x6.1.1,()),())
def UK :af:=ee 55 [(0,.agg k2),(1,.c (.int .i64))] [(0,.c .bool)] λk v=>f55 k v.1.1.1 v.1.1.2.1 v.1.2.1
def aab (k:Nat):Full:=fl k 14 [zj,MT,Vf]
theorem abb :SN UK:=so Tryz.func55 aab (λ_ j=>⟨E6.at j,WB.at j,abG.at j,trivial⟩) (λ_ _=>by kernel_rfl)
def rP {ρ:Type}(k:Nat):Nat->Int->Int->T6->(List T5)->(List Int)->(List Int)->(((T1×T12)->Option ρ)×Unit)->Option ρ|0,_,_,_,_,_,_,_=>none|j+1,v20,v21,v22,v23,v24,v25,nx=>bif(decide (v21<v20))then bif decide (0≤v21)&&decide (v21<(v25.length:Int))then(v25[v21.toNat]?).bind λx26=>(aq v23 x26).bind λx27=>bif decide ((v24.length+[x27.2.2].length)*8≤roomy)then rP k j v20 (wr .i64 (v21+1)) v22 v23 (v24++[x27.2.2]) v25 nx else none else none else nx.1 (((),()),(v24,()))
def G8 (k:Nat):Cut:=⟨⟨[(2,.c (.box 5000000)),(5,.c (.row 5000001)),(10,.c (.row 5000002)),(11,.c (.int .i64)),(12,.c (.int .i64))],[(5000000,.box 31 k2),(5000001,.row 2 (.int .i64)),(5000002,.row 2 (.int .i64))],[]⟩,[(.exit 0,⟨[(5,.c (.row 5000000))],[(5000000,.row 2 (.int .i64))],[]⟩)],λρ j v nx=>rP k j v.1.2.2.2.1 v.1.2.2.2.2.1 v.2.1.1 v.2.1.2.1 v.2.2.1 v.2.2.2.1 nx⟩
def f99 (k:Nat)(a1:T6)(a2:(List T5))(a3:Int):Option (T1×T12):=
 (f53 k a1 a2 a3).bind λx18=>
 rP k k (x18.2.1.length:Int) 0 a1 a2 ([]:List Int) x18.2.1
  (λx19:(T1×T12)=>some (((),()),(x19.2.1,())),
  ())
def MU :af:=⟨99,⟨[(0,.agg k2),(1,.c (.int .i64))],[],[]⟩,⟨[(0,.c (.row 4000000))],[(4000000,.row 2 (.int .i64))],[]⟩,λk v=>f99 k v.1.1.1 v.1.1.2.1 v.1.2.1⟩
def VS (k:Nat):Full:=fl k 27 [IG] (cuts:=[(3,(G8 k))])
theorem Tv (k:Nat):aF (VS k) (G8 k) (au Tryz.f99 3):=λρ v nx=>⟨by kernel_rfl,λj=>by kernel_rfl⟩
theorem WC :SN MU:=so Tryz.func99 VS (λ_ j=>⟨O8.at j,trivial⟩) (λ_ _=>by kernel_rfl) (hob:=λk=>Eq.mpr (by kernel_rfl) (And.intro (Tv k) (trivial)))
def f100 (k:Nat)(a1:(List Int))(a2:Int):Option (T2×Unit):=
 (f150 k a1 a2).bind λx2=>
 some (((decide (x2.1.1≥0)),()),())
def H5 :af:=ee 100 [(0,.c (.sl (.int .i64))),(1,.c (.int .i64))] [(0,.c .bool)] λk v=>f100 k v.1.1 v.1.2.1
def WS (k:Nat):Full:=fl k 9 [Im]
theorem RH :SN H5:=so Tryz.func100 WS (λ_ j=>⟨RW.at j,trivial⟩) (λ_ _=>by kernel_rfl)
def lZ {ρ:Type}(k:Nat):Nat->Int->Int->(List Int)->Int->Int->(((T0×Unit)->Option ρ)×Unit)->Option ρ|0,_,_,_,_,_,_=>none|j+1,v9,v10,v11,v12,v13,nx=>bif(decide (v13<v12))then(aq v11 v13).bind λx14=>bif(x14==v9)then lZ k j v9 (wr .i64 (v10+1)) v11 v12 (wr .i64 (v13+1)) nx else lZ k j v9 v10 v11 v12 (wr .i64 (v13+1)) nx else nx.1 ((v10,()),())
def Db (k:Nat):Cut:=⟨⟨[(1,.c (.int .i64)),(5,.c (.int .i64)),(8,.c (.sl (.int .i64))),(9,.c (.int .i64)),(10,.c (.int .i64))],[],[]⟩,[(.exit 0,⟨[(5,.c (.int .i64))],[],[]⟩)],λρ j v nx=>lZ k j v.1.1 v.1.2.1 v.1.2.2.1 v.1.2.2.2.1 v.1.2.2.2.2.1 nx⟩
def f153 (k:Nat)(a1:(List Int))(a2:Int):Option (T0×Unit):=
 lZ k k a2 0 a1 (a1.length:Int) 0
  (λx8:(T0×Unit)=>some ((x8.1.1,()),()),
  ())
def PZ :af:=ee 153 [(0,.c (.sl (.int .i64))),(1,.c (.int .i64))] [(0,.c (.int .i64))] λk v=>f153 k v.1.1 v.1.2.1
def Rf (k:Nat):Full:=fl k 21 [] (cuts:=[(3,(Db k))])
theorem NR (k:Nat):aF (Rf k) (Db k) (au Tryz.f153 3):=λρ v nx=>⟨by kernel_rfl,λj=>by kernel_rfl⟩
theorem YM :SN PZ:=so Tryz.func153 Rf (λ_ _=>trivial) (λ_ _=>by kernel_rfl) (hob:=λk=>Eq.mpr (by kernel_rfl) (And.intro (NR k) (trivial)))
def f101 (k:Nat)(a1:(List Int)):Option (T0×Unit):=
 (f153 k a1 2).bind λx4=>
 (f153 k a1 3).bind λx5=>
 (f152 k (wr .i64 (x4.1.1-x5.1.1))).bind λx6=>
 some ((x6.1.1,()),())
def H6 :af:=ee 101 [(0,.c (.sl (.int .i64)))] [(0,.c (.int .i64))] λk v=>f101 k v.1.1
def WT (k:Nat):Full:=fl k 9 [PZ,Io]
theorem RI :SN H6:=so Tryz.func101 WT (λ_ j=>⟨YM.at j,RX.at j,trivial⟩) (λ_ _=>by kernel_rfl)
def f56 (k:Nat)(a1:T6)(a2:(List T5))(a3:Int):Option (T2×Unit):=(f99 k a1 a2 a3).bind λx5=>(f54 k a1 a2 a3).bind λx6=>bif x6.1.1 then some ((true,()),())else(f100 k x5.2.1 4).bind λx7=>bif(!x7.1.1)then(f101 k x5.2.1).bind λx8=>some (((x8.1.1==2),()),())else some ((false,()),())
def UL :af:=ee 56 [(0,.agg k2),(1,.c (.int .i64))] [(0,.c .bool)] λk v=>f56 k v.1.1.1 v.1.1.2.1 v.1.2.1
def aac (k:Nat):Full:=fl k 22 [MU,zj,H5,H6]
theorem abc :SN UL:=so Tryz.func56 aac (λ_ j=>⟨WC.at j,E6.at j,RH.at j,RI.at j,trivial⟩) (λ_ _=>by kernel_rfl)
def oc {ρ:Type}(k:Nat):Nat->(List Int)->Int->Int->Int->Int->(List Int)->Int->Int->(List T5)->(((((List Int)×Int×Unit×Int×Int×Int×(List Int)×Int×Int×Unit)×T11)->Option ρ)×Unit)->Option ρ|0,_,_,_,_,_,_,_,_,_,_=>none|j+1,v52,v53,v54,v55,v56,v57,v58,v59,v60,nx=>bif(decide (v56<v53))then bif decide (v53=0)then none else(aq v52 ((wr .i64 (v54+v56)).tmod v53)).bind λx61=>bif(x61==v55)then oc k j v52 v53 v54 v55 (wr .i64 (v56+1)) v57 v58 v59 v60 nx else nx.1 ((v52,v53,(),v54,v55,v56,v57,v58,v59,()),(v60,()))else nx.1 ((v52,v53,(),v54,v55,v56,v57,v58,v59,()),(v60,()))
def CI (k:Nat):Cut:=⟨⟨[(0,.c (.sl (.int .i64))),(3,.c (.int .i64)),(4,.c (.row 5000000)),(5,.c (.int .i64)),(6,.c (.int .i64)),(7,.c (.int .i64)),(10,.c (.sl (.int .i64))),(11,.c (.int .i64)),(12,.c (.int .i64))],[(5000000,.row 125 u1)],[]⟩,[(.exit 2,⟨[(0,.c (.sl (.int .i64))),(3,.c (.int .i64)),(4,.c (.row 5000000)),(5,.c (.int .i64)),(6,.c (.int .i64)),(7,.c (.int .i64)),(10,.c (.sl (.int .i64))),(11,.c (.int .i64)),(12,.c (.int .i64))],[(5000000,.row 125 u1)],[]⟩)],λρ j v nx=>oc k j v.1.1 v.1.2.1 v.1.2.2.2.1 v.1.2.2.2.2.1 v.1.2.2.2.2.2.1 v.1.2.2.2.2.2.2.1 v.1.2.2.2.2.2.2.2.1 v.1.2.2.2.2.2.2.2.2.1 v.2.1 nx⟩
def gA {ρ:Type}(k:Nat):Nat->(List Int)->Int->(List Int)->Int->Int->(List T5)->(((T1×T11)->Option ρ)×Unit)->Option ρ|0,_,_,_,_,_,_,_=>none|j+1,v62,v63,v64,v65,v66,v67,nx=>bif(decide (v66<v65))then(aq v64 v66).bind λx68=>bif decide (v63=0)then none else let x71:Int:=((wr .i64 ((wr .i64 (v66+v63))-1)).tmod v63);(aq v62 x71).bind λx72=>bif(decide (x72≤x68))then gA k j v62 v63 v64 v65 (wr .i64 (v66+1)) v67 nx else oc k k v62 v63 v66 x68 1 v64 v65 v66 v67 (λx74:(((List Int)×Int×Unit×Int×Int×Int×(List Int)×Int×Int×Unit)×T11)=>let x75:Int:=(wr .i64 (x74.1.2.2.2.1+x74.1.2.2.2.2.2.1));bif decide (x74.1.2.1=0)then none else(aq x74.1.1 (x75.tmod x74.1.2.1)).bind λx76=>bif(decide (x76>x74.1.2.2.2.2.1))then bif decide ((x74.2.1.length+[(x74.1.2.2.2.1,(x74.1.2.2.2.2.2.1,x74.1.2.2.2.2.1))].length)*24≤roomy)then let x77:(List T5):=(x74.2.1++[(x74.1.2.2.2.1,(x74.1.2.2.2.2.2.1,x74.1.2.2.2.2.1))]);gA k j x74.1.1 x74.1.2.1 x74.1.2.2.2.2.2.2.1 x74.1.2.2.2.2.2.2.2.1 (wr .i64 (x74.1.2.2.2.2.2.2.2.2.1+1)) x77 nx else none else gA k j x74.1.1 x74.1.2.1 x74.1.2.2.2.2.2.2.1 x74.1.2.2.2.2.2.2.2.1 (wr .i64 (x74.1.2.2.2.2.2.2.2.2.1+1)) x74.2.1 nx,())else nx.1 (((),()),(v67,()))
def CH (k:Nat):Cut:=⟨⟨[(0,.c (.sl (.int .i64))),(3,.c (.int .i64)),(4,.c (.row 5000000)),(10,.c (.sl (.int .i64))),(11,.c (.int .i64)),(12,.c (.int .i64))],[(5000000,.row 125 u1)],[]⟩,[(.exit 0,⟨[(4,.c (.row 5000000))],[(5000000,.row 125 u1)],[]⟩)],λρ j v nx=>gA k j v.1.1 v.1.2.1 v.1.2.2.2.1 v.1.2.2.2.2.1 v.1.2.2.2.2.2.1 v.2.1 nx⟩
def f103 (k:Nat)(a1:(List Int)):Option (T1×T11):=
 gA k k a1 (a1.length:Int) a1 (a1.length:Int) 0 ([]:List T5)
  (λx51:(T1×T11)=>some (((),()),(x51.2.1,())),
  ())
def Pz :af:=⟨103,⟨[(0,.c (.sl (.int .i64)))],[],[]⟩,⟨[(0,.c (.row 4000000))],[(4000000,.row 125 u1)],[]⟩,λk v=>f103 k v.1.1⟩
def IV (k:Nat):Full:=fl k 64 [] (cuts:=[(8,(CI k)),(4,(CH k))])
theorem Ns (k:Nat):aF (IV k) (CI k) (au Tryz.f103 8):=λρ v nx=>⟨by kernel_rfl,λj=>by kernel_rfl⟩
theorem Nr (k:Nat):aF (IV k) (CH k) (au Tryz.f103 4):=λρ v nx=>⟨by kernel_rfl,λj=>by kernel_rfl⟩
theorem Yl :SN Pz:=so Tryz.func103 IV (λ_ _=>trivial) (λ_ _=>by kernel_rfl) (hob:=λk=>Eq.mpr (by kernel_rfl) (And.intro (Ns k) (And.intro (Nr k) (trivial))))
def oB {ρ:Type}(k:Nat):Nat->Int->Int->Int->Int->Int->Int->(List Int)->(((T1×T12)->Option ρ)×Unit)->Option ρ|0,_,_,_,_,_,_,_,_=>none|j+1,v16,v17,v18,v19,v20,v21,v22,nx=>bif(decide (v18<v17))then bif decide (v16=0)then none else bif decide ((v22.length+[((wr .i64 (v19+v18)).tmod v16)].length)*8≤roomy)then oB k j v16 v17 (wr .i64 (v18+1)) v19 v20 v21 (v22++[((wr .i64 (v19+v18)).tmod v16)]) nx else none else nx.1 (((),()),(v22,()))
def De (k:Nat):Cut:=⟨⟨[(1,.c (.int .i64)),(2,.c (.box 5000000)),(5,.c (.row 5000001)),(9,.c (.int .i64)),(10,.c (.int .i64))],[(5000000,.box 125 k0),(5000001,.row 2 (.int .i64))],[]⟩,[(.exit 0,⟨[(5,.c (.row 5000000))],[(5000000,.row 2 (.int .i64))],[]⟩)],λρ j v nx=>oB k j v.1.1 v.1.2.2.2.1 v.1.2.2.2.2.1 v.2.1.1 v.2.1.2.1 v.2.1.2.2.1 v.2.2.1 nx⟩
def f156 (k:Nat)(a1 a2 a3 a4:Int):Option (T1×T12):=
 oB k k a4 (wr .i64 (a2+1)) 0 a1 a2 a3 ([]:List Int)
  (λx15:(T1×T12)=>some (((),()),(x15.2.1,())),
  ())
def P2 :af:=⟨156,⟨[(0,.agg k0),(1,.c (.int .i64))],[],[]⟩,⟨[(0,.c (.row 4000000))],[(4000000,.row 2 (.int .i64))],[]⟩,λk v=>f156 k v.1.1.1 v.1.1.2.1 v.1.1.2.2.1 v.1.2.1⟩
def Ri (k:Nat):Full:=fl k 24 [] (cuts:=[(3,(De k))])
theorem NU (k:Nat):aF (Ri k) (De k) (au Tryz.f156 3):=λρ v nx=>⟨by kernel_rfl,λj=>by kernel_rfl⟩
theorem YP :SN P2:=so Tryz.func156 Ri (λ_ _=>trivial) (λ_ _=>by kernel_rfl) (hob:=λk=>Eq.mpr (by kernel_rfl) (And.intro (NU k) (trivial)))
def oA {ρ:Type}(k:Nat):Nat->(List Int)->(List Int)->Int->Int->(List Int)->(((T1×T12)->Option ρ)×Unit)->Option ρ|0,_,_,_,_,_,_=>none|j+1,v16,v17,v18,v19,v20,nx=>bif(decide (v19<v18))then(aq v17 v19).bind λx21=>(aq v16 x21).bind λx22=>bif decide ((v20.length+[x22].length)*8≤roomy)then oA k j v16 v17 v18 (wr .i64 (v19+1)) (v20++[x22]) nx else none else nx.1 (((),()),(v20,()))
def Dd (k:Nat):Cut:=⟨⟨[(0,.c (.sl (.int .i64))),(5,.c (.row 5000000)),(8,.c (.sl (.int .i64))),(9,.c (.int .i64)),(10,.c (.int .i64))],[(5000000,.row 2 (.int .i64))],[]⟩,[(.exit 0,⟨[(5,.c (.row 5000000))],[(5000000,.row 2 (.int .i64))],[]⟩)],λρ j v nx=>oA k j v.1.1 v.1.2.2.1 v.1.2.2.2.1 v.1.2.2.2.2.1 v.2.1 nx⟩
def f155 (k:Nat)(a1 a2:(List Int)):Option (T1×T12):=
 oA k k a1 a2 (a2.length:Int) 0 ([]:List Int)
  (λx15:(T1×T12)=>some (((),()),(x15.2.1,())),
  ())
def P1 :af:=⟨155,⟨[(0,.c (.sl (.int .i64))),(1,.c (.sl (.int .i64)))],[],[]⟩,⟨[(0,.c (.row 4000000))],[(4000000,.row 2 (.int .i64))],[]⟩,λk v=>f155 k v.1.1 v.1.2.1⟩
def Rh (k:Nat):Full:=fl k 23 [] (cuts:=[(3,(Dd k))])
theorem NT (k:Nat):aF (Rh k) (Dd k) (au Tryz.f155 3):=λρ v nx=>⟨by kernel_rfl,λj=>by kernel_rfl⟩
theorem YO :SN P1:=so Tryz.func155 Rh (λ_ _=>trivial) (λ_ _=>by kernel_rfl) (hob:=λk=>Eq.mpr (by kernel_rfl) (And.intro (NT k) (trivial)))
def f105 (k:Nat)(a1 a2 a3:Int)(a4:(List Int)):Option (T2×Unit):=
 (f52 k a4).bind λx5=>
 (f156 k a1 a2 a3 x5.1.1).bind λx6=>
 (f155 k a4 x6.2.1).bind λx7=>
 (f101 k x7.2.1).bind λx8=>
 some (((x8.1.1==((wr .i64 (a2+1)).tmod 2)),()),())
def PB :af:=ee 105 [(0,.agg k0),(1,.c (.sl (.int .i64)))] [(0,.c .bool)] λk v=>f105 k v.1.1.1 v.1.1.2.1 v.1.1.2.2.1 v.1.2.1
def WW (k:Nat):Full:=fl k 17 [MM,P2,P1,H6]
theorem Yn :SN PB:=so Tryz.func105 WW (λ_ j=>⟨Wu.at j,YP.at j,YO.at j,RI.at j,trivial⟩) (λ_ _=>by kernel_rfl)
def f104 (k:Nat)(a1 a2 a3:Int)(a4:(List Int)):Option (T2×Unit):=
 (f105 k a1 a2 a3 a4).bind λx2=>
 some (((!x2.1.1),()),())
def PA :af:=ee 104 [(0,.agg k0),(1,.c (.dp (.sl (.int .i64))))] [(0,.c .bool)] λk v=>f104 k v.1.1.1 v.1.1.2.1 v.1.1.2.2.1 v.1.2.1
def WV (k:Nat):Full:=fl k 8 [PB]
theorem Ym :SN PA:=so Tryz.func104 WV (λ_ j=>⟨Yn.at j,trivial⟩) (λ_ _=>by kernel_rfl)
def oz {ρ:Type}(k:Nat):Nat->(List T5)->(List Int)->Int->Int->((T1->Option ρ)×((T0×Unit)->Option ρ)×Unit)->Option ρ|0,_,_,_,_,_=>none|j+1,v11,v12,v13,v14,nx=>bif(decide (v14<v13))then(aq v11 v14).bind λx15=>(f104 k x15.1 x15.2.1 x15.2.2 v12).bind λx16=>bif x16.1.1 then nx.2.1 ((v14,()),())else oz k j v11 v12 v13 (wr .i64 (v14+1)) nx else nx.1 ((),())
def Dc (k:Nat):Cut:=⟨⟨[(0,.c (.sl u1)),(1,.c (.cap (.lit (.fn 104)) (.dp (.sl (.int .i64))))),(7,.c (.int .i64)),(8,.c (.int .i64))],[],[]⟩,[(.exit 0,⟨[],[],[]⟩),(.ret,⟨[(4,.c (.int .i64))],[],[]⟩)],λρ j v nx=>oz k j v.1.1 v.1.2.1.2 v.1.2.2.1 v.1.2.2.2.1 nx⟩
def f154 (k:Nat)(a1:(List T5))(a2:(List Int)):Option (T0×Unit):=
 oz k k a1 a2 (a1.length:Int) 0
  (λx9:T1=>some (((-1),()),()),
  λx10:(T0×Unit)=>some ((x10.1.1,()),()),
  ())
def P0 :af:=ee 154 [(0,.c (.sl u1)),(1,.c (.cap (.lit (.fn 104)) (.dp (.sl (.int .i64)))))] [(0,.c (.int .i64))] λk v=>f154 k v.1.1 v.1.2.1.2
def Rg (k:Nat):Full:=fl k 19 [PA] (cuts:=[(2,(Dc k))])
theorem NS (k:Nat):aF (Rg k) (Dc k) (au Tryz.f154 2):=λρ v nx=>⟨by kernel_rfl,λj=>by kernel_rfl⟩
theorem YN :SN P0:=so Tryz.func154 Rg (λ_ j=>⟨Ym.at j,trivial⟩) (λ_ _=>by kernel_rfl) (hob:=λk=>Eq.mpr (by kernel_rfl) (And.intro (NS k) (trivial)))
def f102 (k:Nat)(a1:(List T5))(a2:(List Int)):Option (T2×Unit):=
 (f154 k a1 a2).bind λx2=>
 some (((decide (x2.1.1≥0)),()),())
def Py :af:=ee 102 [(0,.c (.sl u1)),(1,.c (.cap (.lit (.fn 104)) (.dp (.sl (.int .i64)))))] [(0,.c .bool)] λk v=>f102 k v.1.1 v.1.2.1.2
def WU (k:Nat):Full:=fl k 9 [P0]
theorem Yk :SN Py:=so Tryz.func102 WU (λ_ j=>⟨YN.at j,trivial⟩) (λ_ _=>by kernel_rfl)
def f57 (k:Nat)(a1:T6)(a2:(List T5))(a3:Int):Option (T2×Unit):=(f54 k a1 a2 a3).bind λx9=>bif x9.1.1 then some ((true,()),())else(f99 k a1 a2 a3).bind λx10=>(f100 k x10.2.1 4).bind λx11=>bif(!x11.1.1)then(f98 k a1 a2 a3).bind λx12=>(f103 k x12.2.1).bind λx13=>(f102 k x13.2.1 x10.2.1).bind λx14=>some (((!x14.1.1),()),())else some ((false,()),())
def UM :af:=ee 57 [(0,.agg k2),(1,.c (.int .i64))] [(0,.c .bool)] λk v=>f57 k v.1.1.1 v.1.1.2.1 v.1.2.1
def aad (k:Nat):Full:=fl k 24 [zj,MU,H5,MT,Pz,Py]
theorem abd :SN UM:=so Tryz.func57 aad (λ_ j=>⟨E6.at j,WC.at j,RH.at j,WB.at j,Yl.at j,Yk.at j,trivial⟩) (λ_ _=>by kernel_rfl)
def f35 (k:Nat)(a1:T6)(a2:(List T5))(a3:Int):Option (((Int×Int×Bool×Bool×Bool×Bool×Unit)×Unit)×Unit):=
 (f53 k a1 a2 a3).bind λx7=>
 (f52 k x7.2.1).bind λx8=>
 (f54 k a1 a2 a3).bind λx9=>
 (f55 k a1 a2 a3).bind λx10=>
 (f56 k a1 a2 a3).bind λx11=>
 (f57 k a1 a2 a3).bind λx12=>
 some (((a3,x8.1.1,(!x9.1.1),x10.1.1,x11.1.1,x12.1.1,()),()),())
def MJ :af:=ee 35 [(0,.agg k2),(1,.c (.int .i64))] [(0,.agg k5)] λk v=>f35 k v.1.1.1 v.1.1.2.1 v.1.2.1
def ZZ (k:Nat):Full:=fl k 24 [IG,MM,zj,UK,UL,UM] (touch:=[(1,[(19,[4])])])
theorem Wq :SN MJ:=so Tryz.func35 ZZ (λ_ j=>⟨O8.at j,Wu.at j,E6.at j,abb.at j,abc.at j,abd.at j,trivial⟩) (λ_ _=>by kernel_rfl)
def rD {ρ:Type}(k:Nat):Nat->Int->Int->T6->(List T5)->(List T16)->(((T1×((List T16)×Unit))->Option ρ)×Unit)->Option ρ|0,_,_,_,_,_,_=>none|j+1,v17,v18,v19,v20,v21,nx=>bif(decide (v18<v17))then(f35 k v19 v20 v18).bind λx22=>bif decide ((v21.length+[(x22.1.1.1,(x22.1.1.2.1,(x22.1.1.2.2.1,(x22.1.1.2.2.2.1,(x22.1.1.2.2.2.2.1,x22.1.1.2.2.2.2.2.1)))))].length)*24≤roomy)then let x23:(List T16):=(v21++[(x22.1.1.1,(x22.1.1.2.1,(x22.1.1.2.2.1,(x22.1.1.2.2.2.1,(x22.1.1.2.2.2.2.1,x22.1.1.2.2.2.2.2.1)))))]);rD k j v17 (wr .i64 (v18+1)) v19 v20 x23 nx else none else nx.1 (((),()),(v21,()))
def Gy (k:Nat):Cut:=⟨⟨[(1,.c (.box 5000000)),(3,.c (.row 5000001)),(7,.c (.int .i64)),(8,.c (.int .i64))],[(5000000,.box 31 k2),(5000001,.row 36 u7)],[]⟩,[(.exit 0,⟨[(3,.c (.row 5000000))],[(5000000,.row 36 u7)],[]⟩)],λρ j v nx=>rD k j v.1.2.2.1 v.1.2.2.2.1 v.2.1.1 v.2.1.2.1 v.2.2.1 nx⟩
def f37 (k:Nat)(a1:T6)(a2:(List T5)):Option (T1×((List T16)×Unit)):=
 (f67 k a1).bind λx15=>
 rD k k x15.1.1 0 a1 a2 ([]:List T16)
  (λx16:(T1×((List T16)×Unit))=>some (((),()),(x16.2.1,())),
  ())
def MK :af:=⟨37,⟨[(0,.agg k2)],[],[]⟩,⟨[(0,.c (.row 4000000))],[(4000000,.row 36 u7)],[]⟩,λk v=>f37 k v.1.1.1 v.1.1.2.1⟩
def Vx (k:Nat):Full:=fl k 19 [Ei,MJ] (cuts:=[(3,(Gy k))])
theorem SV (k:Nat):aF (Vx k) (Gy k) (au Tryz.f37 3):=λρ v nx=>⟨by kernel_rfl,λj=>by kernel_rfl⟩
theorem Ws :SN MK:=so Tryz.func37 Vx (λ_ j=>⟨JR.at j,Wq.at j,trivial⟩) (λ_ _=>by kernel_rfl) (hob:=λk=>Eq.mpr (by kernel_rfl) (And.intro (SV k) (trivial)))
def la {ρ:Type}(k:Nat):Nat->Int->Int->(List Int)->(List T16)->(((T1×T12)->Option ρ)×Unit)->Option ρ|0,_,_,_,_,_=>none|j+1,v18,v19,v20,v21,nx=>bif(decide (v19<v18))then bif decide (0≤v19)&&decide (v19<(v21.length:Int))then(v21[v19.toNat]?).bind λx22=>bif(!x22.2.2.2.1)then bif decide ((v20.length+[x22.1].length)*8≤roomy)then la k j v18 (wr .i64 (v19+1)) (v20++[x22.1]) v21 nx else none else bif(!x22.2.2.2.2.1)then bif decide ((v20.length+[x22.1].length)*8≤roomy)then la k j v18 (wr .i64 (v19+1)) (v20++[x22.1]) v21 nx else none else bif(!x22.2.2.2.2.2)then bif decide ((v20.length+[x22.1].length)*8≤roomy)then la k j v18 (wr .i64 (v19+1)) (v20++[x22.1]) v21 nx else none else la k j v18 (wr .i64 (v19+1)) v20 v21 nx else none else nx.1 (((),()),(v20,()))
def Gj (k:Nat):Cut:=⟨⟨[(4,.c (.row 5000000)),(11,.c (.row 5000001)),(12,.c (.int .i64)),(13,.c (.int .i64))],[(5000000,.row 2 (.int .i64)),(5000001,.row 36 u7)],[]⟩,[(.exit 0,⟨[(4,.c (.row 5000000))],[(5000000,.row 2 (.int .i64))],[]⟩)],λρ j v nx=>la k j v.1.2.2.1 v.1.2.2.2.1 v.2.1 v.2.2.1 nx⟩
def f16 (k:Nat)(a1:T6)(a2:(List T5)):Option ((Unit×Int×Unit)×T12):=(f36 k a1 a2).bind λx15=>bif(!x15.1.1)then some (((),1,()),(([]:List Int),()))else(f37 k a1 a2).bind λx16=>la k k (x16.2.1.length:Int) 0 ([]:List Int) x16.2.1 (λx17:(T1×T12)=>some (((),0,()),(x17.2.1,())),())
def MF :af:=⟨16,⟨[(0,.agg k2)],[],[]⟩,⟨[(0,.c (.row 4000000)),(1,.c (.int .i64))],[(4000000,.row 2 (.int .i64))],[]⟩,λk v=>f16 k v.1.1.1 v.1.1.2.1⟩
def Vj (k:Nat):Full:=fl k 37 [IE,MK] (cuts:=[(5,(Gj k))])
theorem SG (k:Nat):aF (Vj k) (Gj k) (au Tryz.f16 5):=λρ v nx=>⟨by kernel_rfl,λj=>by kernel_rfl⟩
theorem Wk :SN MF:=so Tryz.func16 Vj (λ_ j=>⟨O6.at j,Ws.at j,trivial⟩) (λ_ _=>by kernel_rfl) (hob:=λk=>Eq.mpr (by kernel_rfl) (And.intro (SG k) (trivial)))
def f10 (k:Nat)(a1:T6)(a2:(List T5)):Option (T2×Unit):=(f16 k a1 a2).bind λx2=>bif(x2.1.2.1==0)then some ((((x2.2.1.length:Int)==0),()),())else some ((false,()),())
def Ug :af:=ee 10 [(0,.agg k2)] [(0,.c .bool)] λk v=>f10 k v.1.1.1 v.1.1.2.1
def ZN (k:Nat):Full:=fl k 17 [MF]
theorem aaJ :SN Ug:=so Tryz.func10 ZN (λ_ j=>⟨Wk.at j,trivial⟩) (λ_ _=>by kernel_rfl)
def f80 (k:Nat)(a1 a2 a3 a4 a5 a6:Int):Option (T2×Unit):=bif(a1 !=a4)then some ((false,()),())else bif(a2 !=a5)then some ((false,()),())else bif(a3 !=a6)then some ((false,()),())else some ((true,()),())
def U7 :af:=ee 80 [(0,.agg k0),(1,.agg k0)] [(0,.c .bool)] λk v=>f80 k v.1.1.1 v.1.1.2.1 v.1.1.2.2.1 v.1.2.1.1 v.1.2.1.2.1 v.1.2.1.2.2.1
def aak (k:Nat):Full:=fl k 20 []
theorem aby :SN U7:=so Tryz.func80 aak (λ_ _=>trivial) (λ_ _=>by kernel_rfl)
def f43 (k:Nat)(a1 a2 a3 a4 a5 a6 a7 a8 a9 a10 a11 a12:Int):Option (T2×Unit):=(f80 k a1 a2 a3 a7 a8 a9).bind λx5=>bif(!x5.1.1)then some ((false,()),())else(f80 k a4 a5 a6 a10 a11 a12).bind λx6=>bif(!x6.1.1)then some ((false,()),())else some ((true,()),())
def UE :af:=ee 43 [(0,.agg k1),(1,.agg k1)] [(0,.c .bool)] λk v=>f43 k v.1.1.1 v.1.1.2.1 v.1.1.2.2.1 v.1.1.2.2.2.1 v.1.1.2.2.2.2.1 v.1.1.2.2.2.2.2.1 v.1.2.1.1 v.1.2.1.2.1 v.1.2.1.2.2.1 v.1.2.1.2.2.2.1 v.1.2.1.2.2.2.2.1 v.1.2.1.2.2.2.2.2.1
def Z3 (k:Nat):Full:=fl k 17 [U7]
theorem aa5 :SN UE:=so Tryz.func43 Z3 (λ_ j=>⟨aby.at j,trivial⟩) (λ_ _=>by kernel_rfl)
def rz {ρ:Type}(k:Nat):Nat->T6->T6->Int->((T1->Option ρ)×((T2×Unit)->Option ρ)×Unit)->Option ρ|0,_,_,_,_=>none|j+1,v11,v12,v13,nx=>bif(decide (v13<(v11.length:Int)))then(aq v11 v13).bind λx14=>(aq v12 v13).bind λx15=>(f43 k x14.1.1 x14.1.2.1 x14.1.2.2 x14.2.1 x14.2.2.1 x14.2.2.2 x15.1.1 x15.1.2.1 x15.1.2.2 x15.2.1 x15.2.2.1 x15.2.2.2).bind λx16=>bif(!x16.1.1)then nx.2.1 ((false,()),())else rz k j v11 v12 (wr .i64 (v13+1)) nx else nx.1 ((),())
def Gu (k:Nat):Cut:=⟨⟨[(0,.c (.sl (.pair u1 u1))),(1,.c (.sl (.pair u1 u1))),(5,.c (.int .i64))],[],[]⟩,[(.exit 0,⟨[],[],[]⟩),(.ret,⟨[(4,.c .bool)],[],[]⟩)],λρ j v nx=>rz k j v.1.1 v.1.2.1 v.1.2.2.1 nx⟩
def f30 (k:Nat)(a1 a2:T6):Option (T2×Unit):=bif((a1.length:Int) !=(a2.length:Int))then some ((false,()),())else rz k k a1 a2 0 (λx9:T1=>some ((true,()),()),λx10:(T2×Unit)=>some ((x10.1.1,()),()),())
def Uw :af:=ee 30 [(0,.c (.sl (.pair u1 u1))),(1,.c (.sl (.pair u1 u1)))] [(0,.c .bool)] λk v=>f30 k v.1.1 v.1.2.1
def Vu (k:Nat):Full:=fl k 27 [UE] (cuts:=[(4,(Gu k))])
theorem SR (k:Nat):aF (Vu k) (Gu k) (au Tryz.f30 4):=λρ v nx=>⟨by kernel_rfl,λj=>by kernel_rfl⟩
theorem aaX :SN Uw:=so Tryz.func30 Vu (λ_ j=>⟨aa5.at j,trivial⟩) (λ_ _=>by kernel_rfl) (hob:=λk=>Eq.mpr (by kernel_rfl) (And.intro (SR k) (trivial)))
def f44 (k:Nat)(a1 a2 a3 a4 a5 a6:Int):Option (T2×Unit):=bif(a1 !=a4)then some ((false,()),())else bif(a2 !=a5)then some ((false,()),())else bif(a3 !=a6)then some ((false,()),())else some ((true,()),())
def UF :af:=ee 44 [(0,.agg k0),(1,.agg k0)] [(0,.c .bool)] λk v=>f44 k v.1.1.1 v.1.1.2.1 v.1.1.2.2.1 v.1.2.1.1 v.1.2.1.2.1 v.1.2.1.2.2.1
def Z4 (k:Nat):Full:=fl k 20 []
theorem aa6 :SN UF:=so Tryz.func44 Z4 (λ_ _=>trivial) (λ_ _=>by kernel_rfl)
def rC {ρ:Type}(k:Nat):Nat->(List T5)->(List T5)->Int->((T1->Option ρ)×((T2×Unit)->Option ρ)×Unit)->Option ρ|0,_,_,_,_=>none|j+1,v11,v12,v13,nx=>bif(decide (v13<(v11.length:Int)))then(aq v11 v13).bind λx14=>(aq v12 v13).bind λx15=>(f44 k x14.1 x14.2.1 x14.2.2 x15.1 x15.2.1 x15.2.2).bind λx16=>bif(!x16.1.1)then nx.2.1 ((false,()),())else rC k j v11 v12 (wr .i64 (v13+1)) nx else nx.1 ((),())
def Gv (k:Nat):Cut:=⟨⟨[(0,.c (.sl u1)),(1,.c (.sl u1)),(5,.c (.int .i64))],[],[]⟩,[(.exit 0,⟨[],[],[]⟩),(.ret,⟨[(4,.c .bool)],[],[]⟩)],λρ j v nx=>rC k j v.1.1 v.1.2.1 v.1.2.2.1 nx⟩
def f31 (k:Nat)(a1 a2:(List T5)):Option (T2×Unit):=bif((a1.length:Int) !=(a2.length:Int))then some ((false,()),())else rC k k a1 a2 0 (λx9:T1=>some ((true,()),()),λx10:(T2×Unit)=>some ((x10.1.1,()),()),())
def Ux :af:=ee 31 [(0,.c (.sl u1)),(1,.c (.sl u1))] [(0,.c .bool)] λk v=>f31 k v.1.1 v.1.2.1
def Vv (k:Nat):Full:=fl k 27 [UF] (cuts:=[(4,(Gv k))])
theorem SS (k:Nat):aF (Vv k) (Gv k) (au Tryz.f31 4):=λρ v nx=>⟨by kernel_rfl,λj=>by kernel_rfl⟩
theorem aaY :SN Ux:=so Tryz.func31 Vv (λ_ j=>⟨aa6.at j,trivial⟩) (λ_ _=>by kernel_rfl) (hob:=λk=>Eq.mpr (by kernel_rfl) (And.intro (SS k) (trivial)))
def f11 (k:Nat)(a1:T6)(a2:(List T5))(a3:T6)(a4:(List T5)):Option (T2×Unit):=(f30 k a1 a3).bind λx5=>bif(!x5.1.1)then some ((false,()),())else(f31 k a2 a4).bind λx6=>bif(!x6.1.1)then some ((false,()),())else some ((true,()),())
def Eh :af:=ee 11 [(0,.agg k2),(1,.agg k2)] [(0,.c .bool)] λk v=>f11 k v.1.1.1 v.1.1.2.1 v.1.2.1.1 v.1.2.1.2.1
def ZO (k:Nat):Full:=fl k 17 [Uw,Ux]
theorem JE :SN Eh:=so Tryz.func11 ZO (λ_ j=>⟨aaX.at j,aaY.at j,trivial⟩) (λ_ _=>by kernel_rfl)
def f3 (k:Nat)(a1:T6)(a2:(List T5)):Option (T2×Unit):=(f7 k a1 a2 1048576).bind λx8=>bif(decide (x8.1.1<0))then some ((true,()),())else(f9 k a1 a2).bind λx9=>(f8 k x9.2.1 x9.2.2.1).bind λx10=>(f9 k a1 a2).bind λx11=>(f10 k x11.2.1 x11.2.2.1).bind λx12=>bif(!(x12.1.1==x10.1.1))then some ((false,()),())else(f9 k a1 a2).bind λx13=>(f11 k x11.2.1 x11.2.2.1 x13.2.1 x13.2.2.1).bind λx14=>bif(!x14.1.1)then some ((false,()),())else some ((true,()),())
def ef3 :af:=ee 3 [(0,.agg k2)] [(0,.c .bool)] λk v=>f3 k v.1.1.1 v.1.1.2.1
def gf3 (k:Nat):Full:=fl k 27 [ef7,ef9,ef8,Ug,Eh]
theorem sf3 :SN ef3:=so Tryz.func3 gf3 (λ_ j=>⟨sf7.at j,sf9.at j,sf8.at j,aaJ.at j,JE.at j,trivial⟩) (λ_ _=>by kernel_rfl)
def f32 (k:Nat)(a1:T7)(a2:Int):Option ((Unit×Int×Unit)×T12):=(f40 k a1).bind λx3=>bif(!x3.1.2.2.1)then some (((),1,()),(([]:List Int),()))else(f45 k a2 0 (wr .i64 ((a1.1.length:Int)-1))).bind λx4=>bif(!x4.1.1)then some (((),3,()),(([]:List Int),()))else some (((),0,()),(x3.2.2.1,()))
def Uy :af:=⟨32,⟨[(0,.c (.dp u5)),(1,.c (.int .i64))],[],[]⟩,⟨[(0,.c (.row 4000000)),(1,.c (.int .i64))],[(4000000,.row 2 (.int .i64))],[]⟩,λk v=>f32 k v.1.1 v.1.2.1⟩
def ZW (k:Nat):Full:=fl k 27 [ML,wQ]
theorem aaZ :SN Uy:=so Tryz.func32 ZW (λ_ j=>⟨Wt.at j,zK.at j,trivial⟩) (λ_ _=>by kernel_rfl)
def f12 (k:Nat)(a1:T6)(a2:(List T5))(a3:Int):Option (((Int×Int×Bool×Bool×Bool×Bool×Unit)×Int×Unit)×Unit):=(f32 k (a1,a2) a3).bind λx3=>bif(x3.1.2.1 !=0)then some (((0,0,false,false,false,false,()),x3.1.2.1,()),())else(f33 k (a1,a2) x3.2.1 a3).bind λx4=>some (((x4.1.1.1,x4.1.1.2.1,x4.1.1.2.2.1,x4.1.1.2.2.2.1,x4.1.1.2.2.2.2.1,x4.1.1.2.2.2.2.2.1,()),0,()),())
def Uh :af:=ee 12 [(0,.agg k2),(1,.c (.int .i64))] [(0,.agg k5),(1,.c (.int .i64))] λk v=>f12 k v.1.1.1 v.1.1.2.1 v.1.2.1
def ZP (k:Nat):Full:=fl k 20 [Uy,MI]
theorem aaK :SN Uh:=so Tryz.func12 ZP (λ_ j=>⟨aaZ.at j,Wp.at j,trivial⟩) (λ_ _=>by kernel_rfl)
def f51 (k:Nat)(a1:T6)(a2:(List T5))(a3:Int):Option (T2×Unit):=
 (f67 k a1).bind λx3=>
 (f90 k a3 0 (wr .i64 (x3.1.1-1))).bind λx4=>
 some ((x4.1.1,()),())
def UJ :af:=ee 51 [(0,.agg k2),(1,.c (.int .i64))] [(0,.c .bool)] λk v=>f51 k v.1.1.1 v.1.1.2.1 v.1.2.1
def Z8 (k:Nat):Full:=fl k 11 [Ei,wT]
theorem aba :SN UJ:=so Tryz.func51 Z8 (λ_ j=>⟨JR.at j,zM.at j,trivial⟩) (λ_ _=>by kernel_rfl)
def f34 (k:Nat)(a1:T6)(a2:(List T5))(a3:Int):Option (T0×Unit):=(f36 k a1 a2).bind λx3=>bif(!x3.1.1)then some ((1,()),())else(f51 k a1 a2 a3).bind λx4=>bif(!x4.1.1)then some ((3,()),())else some ((0,()),())
def Uz :af:=ee 34 [(0,.agg k2),(1,.c (.int .i64))] [(0,.c (.int .i64))] λk v=>f34 k v.1.1.1 v.1.1.2.1 v.1.2.1
def ZY (k:Nat):Full:=fl k 14 [IE,UJ]
theorem aa0 :SN Uz:=so Tryz.func34 ZY (λ_ j=>⟨O6.at j,aba.at j,trivial⟩) (λ_ _=>by kernel_rfl)
def f13 (k:Nat)(a1:T6)(a2:(List T5))(a3:Int):Option (((Int×Int×Bool×Bool×Bool×Bool×Unit)×Int×Unit)×Unit):=(f34 k a1 a2 a3).bind λx3=>bif(x3.1.1 !=0)then some (((0,0,false,false,false,false,()),x3.1.1,()),())else(f35 k a1 a2 a3).bind λx4=>some (((x4.1.1.1,x4.1.1.2.1,x4.1.1.2.2.1,x4.1.1.2.2.2.1,x4.1.1.2.2.2.2.1,x4.1.1.2.2.2.2.2.1,()),0,()),())
def Ui :af:=ee 13 [(0,.agg k2),(1,.c (.int .i64))] [(0,.agg k5),(1,.c (.int .i64))] λk v=>f13 k v.1.1.1 v.1.1.2.1 v.1.2.1
def ZQ (k:Nat):Full:=fl k 17 [Uz,MJ]
theorem aaL :SN Ui:=so Tryz.func13 ZQ (λ_ j=>⟨aa0.at j,Wq.at j,trivial⟩) (λ_ _=>by kernel_rfl)
def f14 (k:Nat)(a1 a2:Int)(a3 a4 a5 a6:Bool)(a7 a8:Int)(a9 a10 a11 a12:Bool):Option (T2×Unit):=bif(a1 !=a7)then some ((false,()),())else bif(a2 !=a8)then some ((false,()),())else bif(!(a3==a9))then some ((false,()),())else bif(!(a4==a10))then some ((false,()),())else bif(!(a5==a11))then some ((false,()),())else bif(!(a6==a12))then some ((false,()),())else some ((true,()),())
def MD :af:=ee 14 [(0,.agg k5),(1,.agg k5)] [(0,.c .bool)] λk v=>f14 k v.1.1.1 v.1.1.2.1 v.1.1.2.2.1 v.1.1.2.2.2.1 v.1.1.2.2.2.2.1 v.1.1.2.2.2.2.2.1 v.1.2.1.1 v.1.2.1.2.1 v.1.2.1.2.2.1 v.1.2.1.2.2.2.1 v.1.2.1.2.2.2.2.1 v.1.2.1.2.2.2.2.2.1
def ZR (k:Nat):Full:=fl k 35 []
theorem Wh :SN MD:=so Tryz.func14 ZR (λ_ _=>trivial) (λ_ _=>by kernel_rfl)
def f4 (k:Nat)(a1:T6)(a2:(List T5))(a3:Int):Option (T2×Unit):=(f7 k a1 a2 1048576).bind λx9=>bif(decide (x9.1.1<0))then some ((true,()),())else(f9 k a1 a2).bind λx10=>(f12 k x10.2.1 x10.2.2.1 a3).bind λx11=>(f9 k a1 a2).bind λx12=>(f13 k x12.2.1 x12.2.2.1 a3).bind λx13=>(f14 k x13.1.1.1 x13.1.1.2.1 x13.1.1.2.2.1 x13.1.1.2.2.2.1 x13.1.1.2.2.2.2.1 x13.1.1.2.2.2.2.2.1 x11.1.1.1 x11.1.1.2.1 x11.1.1.2.2.1 x11.1.1.2.2.2.1 x11.1.1.2.2.2.2.1 x11.1.1.2.2.2.2.2.1).bind λx14=>bif(!x14.1.1)then some ((false,()),())else bif(x13.1.2.1 !=x11.1.2.1)then some ((false,()),())else(f9 k a1 a2).bind λx15=>(f11 k x12.2.1 x12.2.2.1 x15.2.1 x15.2.2.1).bind λx16=>bif(!x16.1.1)then some ((false,()),())else some ((true,()),())
def ef4 :af:=ee 4 [(0,.agg k2),(1,.c (.int .i64))] [(0,.c .bool)] λk v=>f4 k v.1.1.1 v.1.1.2.1 v.1.2.1
def gf4 (k:Nat):Full:=fl k 45 [ef7,ef9,Uh,Ui,MD,Eh]
theorem sf4 :SN ef4:=so Tryz.func4 gf4 (λ_ j=>⟨sf7.at j,sf9.at j,aaK.at j,aaL.at j,Wh.at j,JE.at j,trivial⟩) (λ_ _=>by kernel_rfl)
def f22 (k:Nat)(a1:T6)(a2:(List T5)):Option ((Unit×Int×Unit)×((List T16)×Unit)):=(f36 k a1 a2).bind λx3=>bif(!x3.1.1)then some (((),1,()),(([]:List T16),()))else(f37 k a1 a2).bind λx4=>some (((),0,()),(x4.2.1,()))
def Un :af:=⟨22,⟨[(0,.agg k2)],[],[]⟩,⟨[(0,.c (.row 4000000)),(1,.c (.int .i64))],[(4000000,.row 36 u7)],[]⟩,λk v=>f22 k v.1.1.1 v.1.1.2.1⟩
def ZT (k:Nat):Full:=fl k 9 [IE,MK]
theorem aaP :SN Un:=so Tryz.func22 ZT (λ_ j=>⟨O6.at j,Ws.at j,trivial⟩) (λ_ _=>by kernel_rfl)
def rn {ρ:Type}(k:Nat):Nat->(List T16)->(List T16)->Int->((T1->Option ρ)×((T2×Unit)->Option ρ)×Unit)->Option ρ|0,_,_,_,_=>none|j+1,v11,v12,v13,nx=>bif(decide (v13<(v11.length:Int)))then(aq v11 v13).bind λx14=>(aq v12 v13).bind λx15=>(f14 k x14.1 x14.2.1 x14.2.2.1 x14.2.2.2.1 x14.2.2.2.2.1 x14.2.2.2.2.2 x15.1 x15.2.1 x15.2.2.1 x15.2.2.2.1 x15.2.2.2.2.1 x15.2.2.2.2.2).bind λx16=>bif(!x16.1.1)then nx.2.1 ((false,()),())else rn k j v11 v12 (wr .i64 (v13+1)) nx else nx.1 ((),())
def Gp (k:Nat):Cut:=⟨⟨[(0,.c (.sl u7)),(1,.c (.sl u7)),(5,.c (.int .i64))],[],[]⟩,[(.exit 0,⟨[],[],[]⟩),(.ret,⟨[(4,.c .bool)],[],[]⟩)],λρ j v nx=>rn k j v.1.1 v.1.2.1 v.1.2.2.1 nx⟩
def f23 (k:Nat)(a1 a2:(List T16)):Option (T2×Unit):=bif((a1.length:Int) !=(a2.length:Int))then some ((false,()),())else rn k k a1 a2 0 (λx9:T1=>some ((true,()),()),λx10:(T2×Unit)=>some ((x10.1.1,()),()),())
def Uo :af:=ee 23 [(0,.c (.sl u7)),(1,.c (.sl u7))] [(0,.c .bool)] λk v=>f23 k v.1.1 v.1.2.1
def Vp (k:Nat):Full:=fl k 27 [MD] (cuts:=[(4,(Gp k))])
theorem SL (k:Nat):aF (Vp k) (Gp k) (au Tryz.f23 4):=λρ v nx=>⟨by kernel_rfl,λj=>by kernel_rfl⟩
theorem aaQ :SN Uo:=so Tryz.func23 Vp (λ_ j=>⟨Wh.at j,trivial⟩) (λ_ _=>by kernel_rfl) (hob:=λk=>Eq.mpr (by kernel_rfl) (And.intro (SL k) (trivial)))
def rE {ρ:Type}(k:Nat):Nat->Int->Int->T6->(((T0×(T6×Unit))->Option ρ)×Unit)->Option ρ|0,_,_,_,_=>none|j+1,v18,v19,v20,nx=>bif(decide (v19<(v20.length:Int)))then bif decide (0≤v19)&&decide (v19<(v20.length:Int))then(v20[v19.toNat]?).bind λx21=>bif decide (0≤v19)&&decide (v19<((v20.set v19.toNat ((v18,x21.1.2),x21.2)).length:Int))then((v20.set v19.toNat ((v18,x21.1.2),x21.2))[v19.toNat]?).bind λx22=>let x23:T6:=((v20.set v19.toNat ((v18,x21.1.2),x21.2)).set v19.toNat ((x22.1.1,((wr .i64 (v18+1)),x22.1.2.2)),x22.2));bif decide (0≤v19)&&decide (v19<(x23.length:Int))then(x23[v19.toNat]?).bind λx24=>let x25:T6:=(x23.set v19.toNat ((x24.1.1,(x24.1.2.1,(wr .i64 ((wr .i64 (v18+1))+1)))),x24.2));let x26:Int:=(wr .i64 ((wr .i64 ((wr .i64 (v18+1))+1))+1));bif decide (0≤v19)&&decide (v19<(x25.length:Int))then(x25[v19.toNat]?).bind λx27=>bif decide (0≤v19)&&decide (v19<((x25.set v19.toNat (x27.1,(x26,x27.2.2))).length:Int))then((x25.set v19.toNat (x27.1,(x26,x27.2.2)))[v19.toNat]?).bind λx28=>let x29:T6:=((x25.set v19.toNat (x27.1,(x26,x27.2.2))).set v19.toNat (x28.1,(x28.2.1,((wr .i64 (x26+1)),x28.2.2.2))));bif decide (0≤v19)&&decide (v19<(x29.length:Int))then(x29[v19.toNat]?).bind λx30=>let x31:T6:=(x29.set v19.toNat (x30.1,(x30.2.1,(x30.2.2.1,(wr .i64 ((wr .i64 (x26+1))+1))))));let x32:Int:=(wr .i64 ((wr .i64 ((wr .i64 (x26+1))+1))+1));rE k j x32 (wr .i64 (v19+1)) x31 nx else none else none else none else none else none else none else nx.1 ((v18,()),(v20,()))
def Gz (k:Nat):Cut:=⟨⟨[(0,.c (.lit (.row 3000000))),(1,.c (.int .i64)),(5,.c (.int .i64))],[(3000000,.row 71 (.pair u1 u1))],[(3000000,some 3000000)]⟩,[(.exit 0,⟨[(1,.c (.int .i64))],[(3000000,.row 71 (.pair u1 u1))],[(3000000,some 3000000)]⟩)],λρ j v nx=>rE k j v.1.2.1 v.1.2.2.1 v.2.1 nx⟩
def f38 (k:Nat)(a1:Int)(a2:T6):Option (T0×(T6×Unit)):=
 rE k k a1 0 a2
  (λx17:(T0×(T6×Unit))=>some ((x17.1.1,()),(x17.2.1,())),
  ())
def UA :af:=⟨38,⟨[(0,.c (.row 3000000)),(1,.c (.int .i64))],[(3000000,.row 71 (.pair u1 u1))],[]⟩,⟨[(0,.c (.int .i64))],[(3000000,.row 71 (.pair u1 u1))],[(3000000,some 3000000)]⟩,λk v=>f38 k v.1.2.1 v.2.1⟩
def Vy (k:Nat):Full:=fl k 61 [] (cuts:=[(2,(Gz k))])
theorem SW (k:Nat):aF (Vy k) (Gz k) (au Tryz.f38 2):=λρ v nx=>⟨by kernel_rfl,λj=>by kernel_rfl⟩
theorem aa1 :SN UA:=so Tryz.func38 Vy (λ_ _=>trivial) (λ_ _=>by kernel_rfl) (hob:=λk=>Eq.mpr (by kernel_rfl) (And.intro (SW k) (trivial)))
def rF {ρ:Type}(k:Nat):Nat->Int->Int->(List T5)->(((T0×T11)->Option ρ)×Unit)->Option ρ|0,_,_,_,_=>none|j+1,v12,v13,v14,nx=>bif(decide (v13<(v14.length:Int)))then bif decide (0≤v13)&&decide (v13<(v14.length:Int))then(v14[v13.toNat]?).bind λx15=>bif decide (0≤v13)&&decide (v13<((v14.set v13.toNat (v12,x15.2)).length:Int))then((v14.set v13.toNat (v12,x15.2))[v13.toNat]?).bind λx16=>let x17:(List T5):=((v14.set v13.toNat (v12,x15.2)).set v13.toNat (x16.1,((wr .i64 (v12+1)),x16.2.2)));bif decide (0≤v13)&&decide (v13<(x17.length:Int))then(x17[v13.toNat]?).bind λx18=>let x19:(List T5):=(x17.set v13.toNat (x18.1,(x18.2.1,(wr .i64 ((wr .i64 (v12+1))+1)))));let x20:Int:=(wr .i64 ((wr .i64 ((wr .i64 (v12+1))+1))+1));rF k j x20 (wr .i64 (v13+1)) x19 nx else none else none else none else nx.1 ((v12,()),(v14,()))
def GA (k:Nat):Cut:=⟨⟨[(0,.c (.lit (.row 3000000))),(1,.c (.int .i64)),(5,.c (.int .i64))],[(3000000,.row 77 u1)],[(3000000,some 3000000)]⟩,[(.exit 0,⟨[(1,.c (.int .i64))],[(3000000,.row 77 u1)],[(3000000,some 3000000)]⟩)],λρ j v nx=>rF k j v.1.2.1 v.1.2.2.1 v.2.1 nx⟩
def f39 (k:Nat)(a1:Int)(a2:(List T5)):Option (T0×T11):=
 rF k k a1 0 a2
  (λx11:(T0×T11)=>some ((x11.1.1,()),(x11.2.1,())),
  ())
def UB :af:=⟨39,⟨[(0,.c (.row 3000000)),(1,.c (.int .i64))],[(3000000,.row 77 u1)],[]⟩,⟨[(0,.c (.int .i64))],[(3000000,.row 77 u1)],[(3000000,some 3000000)]⟩,λk v=>f39 k v.1.2.1 v.2.1⟩
def Vz (k:Nat):Full:=fl k 34 [] (cuts:=[(2,(GA k))])
theorem SX (k:Nat):aF (Vz k) (GA k) (au Tryz.f39 2):=λρ v nx=>⟨by kernel_rfl,λj=>by kernel_rfl⟩
theorem aa2 :SN UB:=so Tryz.func39 Vz (λ_ _=>trivial) (λ_ _=>by kernel_rfl) (hob:=λk=>Eq.mpr (by kernel_rfl) (And.intro (SX k) (trivial)))
def f18 (k:Nat)(a1:Int)(a2:T6)(a3:(List T5)):Option (T0×T18):=
 (f38 k a1 a2).bind λx3=>
 (f39 k x3.1.1 a3).bind λx4=>
 some ((x4.1.1,()),(x3.2.1,x4.2.1,()))
def MG :af:=⟨18,⟨[(0,.agg [(.row 3000000),(.row 3000001)]),(1,.c (.int .i64))],[(3000000,.row 71 (.pair u1 u1)),(3000001,.row 77 u1)],[]⟩,⟨[(0,.c (.int .i64))],[(3000000,.row 71 (.pair u1 u1)),(3000001,.row 77 u1)],[(3000000,some 3000000),(3000001,some 3000001)]⟩,λk v=>f18 k v.1.2.1 v.2.1 v.2.2.1⟩
def ZS (k:Nat):Full:=fl k 14 [UA,UB]
theorem Wn :SN MG:=so Tryz.func18 ZS (λ_ j=>⟨aa1.at j,aa2.at j,trivial⟩) (λ_ _=>by kernel_rfl)
def rr {ρ:Type}(k:Nat):Nat->Int->Int->(List T16)->(((T0×((List T16)×Unit))->Option ρ)×Unit)->Option ρ|0,_,_,_,_=>none|j+1,v21,v22,v23,nx=>bif(decide (v22<(v23.length:Int)))then bif decide (0≤v22)&&decide (v22<(v23.length:Int))then(v23[v22.toNat]?).bind λx24=>bif decide (0≤v22)&&decide (v22<((v23.set v22.toNat (v21,x24.2)).length:Int))then((v23.set v22.toNat (v21,x24.2))[v22.toNat]?).bind λx25=>let x26:(List T16):=((v23.set v22.toNat (v21,x24.2)).set v22.toNat (x25.1,((wr .i64 (v21+1)),x25.2.2)));let x27:Bool:=(((wr .i64 ((wr .i64 (v21+1))+1)).tmod 3)==0);bif decide (0≤v22)&&decide (v22<(x26.length:Int))then(x26[v22.toNat]?).bind λx28=>let x29:(List T16):=(x26.set v22.toNat (x28.1,(x28.2.1,(x27,x28.2.2.2))));let x30:Int:=(wr .i64 ((wr .i64 ((wr .i64 (v21+1))+1))+1));bif decide (0≤v22)&&decide (v22<(x29.length:Int))then(x29[v22.toNat]?).bind λx31=>let x32:(List T16):=(x29.set v22.toNat (x31.1,(x31.2.1,(x31.2.2.1,(((x30.tmod 3)==0),x31.2.2.2.2)))));bif decide (0≤v22)&&decide (v22<(x32.length:Int))then(x32[v22.toNat]?).bind λx33=>let x34:(List T16):=(x32.set v22.toNat (x33.1,(x33.2.1,(x33.2.2.1,(x33.2.2.2.1,((((wr .i64 (x30+1)).tmod 3)==0),x33.2.2.2.2.2))))));let x35:Bool:=(((wr .i64 ((wr .i64 (x30+1))+1)).tmod 3)==0);bif decide (0≤v22)&&decide (v22<(x34.length:Int))then(x34[v22.toNat]?).bind λx36=>let x37:(List T16):=(x34.set v22.toNat (x36.1,(x36.2.1,(x36.2.2.1,(x36.2.2.2.1,(x36.2.2.2.2.1,x35))))));let x38:Int:=(wr .i64 ((wr .i64 ((wr .i64 (x30+1))+1))+1));rr k j x38 (wr .i64 (v22+1)) x37 nx else none else none else none else none else none else none else nx.1 ((v21,()),(v23,()))
def Gq (k:Nat):Cut:=⟨⟨[(0,.c (.lit (.row 3000000))),(1,.c (.int .i64)),(5,.c (.int .i64))],[(3000000,.row 36 u7)],[(3000000,some 3000000)]⟩,[(.exit 0,⟨[(1,.c (.int .i64))],[(3000000,.row 36 u7)],[(3000000,some 3000000)]⟩)],λρ j v nx=>rr k j v.1.2.1 v.1.2.2.1 v.2.1 nx⟩
def f24 (k:Nat)(a1:Int)(a2:(List T16)):Option (T0×((List T16)×Unit)):=
 rr k k a1 0 a2
  (λx20:(T0×((List T16)×Unit))=>some ((x20.1.1,()),(x20.2.1,())),
  ())
def Uq :af:=⟨24,⟨[(0,.c (.row 3000000)),(1,.c (.int .i64))],[(3000000,.row 36 u7)],[]⟩,⟨[(0,.c (.int .i64))],[(3000000,.row 36 u7)],[(3000000,some 3000000)]⟩,λk v=>f24 k v.1.2.1 v.2.1⟩
def Vq (k:Nat):Full:=fl k 63 [] (cuts:=[(2,(Gq k))])
theorem SM (k:Nat):aF (Vq k) (Gq k) (au Tryz.f24 2):=λρ v nx=>⟨by kernel_rfl,λj=>by kernel_rfl⟩
theorem aaR :SN Uq:=so Tryz.func24 Vq (λ_ _=>trivial) (λ_ _=>by kernel_rfl) (hob:=λk=>Eq.mpr (by kernel_rfl) (And.intro (SM k) (trivial)))
def rs {ρ:Type}(k:Nat):Nat->(List T16)->Int->Int->(((T0×Unit)->Option ρ)×((T0×Unit)->Option ρ)×Unit)->Option ρ|0,_,_,_,_=>none|j+1,v26,v27,v28,nx=>bif(decide (v28<(v26.length:Int)))then(aq v26 v28).bind λx30=>bif(x30.1 !=v27)then nx.2.1 (((-1),()),())else(aq v26 v28).bind λx32=>bif(x32.2.1 !=(wr .i64 (v27+1)))then nx.2.1 (((-1),()),())else(aq v26 v28).bind λx35=>let x36:Bool:=(((wr .i64 ((wr .i64 (v27+1))+1)).tmod 3)==0);bif(!(x35.2.2.1==x36))then nx.2.1 (((-1),()),())else let x37:Int:=(wr .i64 ((wr .i64 ((wr .i64 (v27+1))+1))+1));(aq v26 v28).bind λx39=>bif(!(x39.2.2.2.1==((x37.tmod 3)==0)))then nx.2.1 (((-1),()),())else(aq v26 v28).bind λx42=>let x43:Bool:=(!(x42.2.2.2.2.1==(((wr .i64 (x37+1)).tmod 3)==0)));bif x43 then nx.2.1 (((-1),()),())else(aq v26 v28).bind λx44=>let x45:Bool:=(((wr .i64 ((wr .i64 (x37+1))+1)).tmod 3)==0);bif(!(x44.2.2.2.2.2==x45))then nx.2.1 (((-1),()),())else let x46:Int:=(wr .i64 ((wr .i64 ((wr .i64 (x37+1))+1))+1));rs k j v26 x46 (wr .i64 (v28+1)) nx else nx.1 ((v27,()),())
def Gr (k:Nat):Cut:=⟨⟨[(0,.c (.sl u7)),(1,.c (.int .i64)),(5,.c (.int .i64))],[],[]⟩,[(.exit 0,⟨[(1,.c (.int .i64))],[],[]⟩),(.ret,⟨[(4,.c (.int .i64))],[],[]⟩)],λρ j v nx=>rs k j v.1.1 v.1.2.1 v.1.2.2.1 nx⟩
def f25 (k:Nat)(a1:(List T16))(a2:Int):Option (T0×Unit):=
 rs k k a1 a2 0
  (λx24:(T0×Unit)=>some ((x24.1.1,()),()),
  λx25:(T0×Unit)=>some ((x25.1.1,()),()),
  ())
def Ur :af:=ee 25 [(0,.c (.sl u7)),(1,.c (.int .i64))] [(0,.c (.int .i64))] λk v=>f25 k v.1.1 v.1.2.1
def Vr (k:Nat):Full:=fl k 75 [] (cuts:=[(2,(Gr k))])
theorem SO (k:Nat):aF (Vr k) (Gr k) (au Tryz.f25 2):=λρ v nx=>⟨by kernel_rfl,λj=>by kernel_rfl⟩
theorem aaS :SN Ur:=so Tryz.func25 Vr (λ_ _=>trivial) (λ_ _=>by kernel_rfl) (hob:=λk=>Eq.mpr (by kernel_rfl) (And.intro (SO k) (trivial)))
def f6 (k:Nat)(a1:T6)(a2:(List T5)):Option (T2×Unit):=(f7 k a1 a2 1048576).bind λx22=>bif(decide (x22.1.1<0))then some ((true,()),())else(f9 k a1 a2).bind λx23=>(f21 k x23.2.1 x23.2.2.1).bind λx24=>(f9 k a1 a2).bind λx25=>(f22 k x25.2.1 x25.2.2.1).bind λx26=>(f23 k x26.2.1 x24.2.1).bind λx28=>bif(!x28.1.1)then some ((false,()),())else bif(x26.1.2.1 !=x24.1.2.1)then some ((false,()),())else(f9 k a1 a2).bind λx31=>(f11 k x25.2.1 x25.2.2.1 x31.2.1 x31.2.2.1).bind λx32=>bif(!x32.1.1)then some ((false,()),())else(f18 k 1 x25.2.1 x25.2.2.1).bind λx33=>bif(decide (x33.1.1<0))then some ((false,()),())else(f23 k x26.2.1 x24.2.1).bind λx35=>bif(!x35.1.1)then some ((false,()),())else bif(x26.1.2.1 !=x24.1.2.1)then some ((false,()),())else(f24 k 1 x26.2.1).bind λx36=>(f25 k x36.2.1 1).bind λx37=>bif(decide (x37.1.1<0))then some ((false,()),())else bif(x37.1.1 !=x36.1.1)then some ((false,()),())else(f9 k a1 a2).bind λx38=>(f22 k x38.2.1 x38.2.2.1).bind λx39=>(f23 k x39.2.1 x24.2.1).bind λx41=>bif(!x41.1.1)then some ((false,()),())else bif(x39.1.2.1 !=x24.1.2.1)then some ((false,()),())else(f25 k x36.2.1 1).bind λx42=>bif(decide (x42.1.1<0))then some ((false,()),())else bif(x42.1.1 !=x36.1.1)then some ((false,()),())else some ((true,()),())
def ef6 :af:=ee 6 [(0,.agg k2)] [(0,.c .bool)] λk v=>f6 k v.1.1.1 v.1.1.2.1
def gf6 (k:Nat):Full:=fl k 96 [ef7,ef9,MH,Un,Uo,Eh,MG,Uq,Ur]
theorem sf6 :SN ef6:=so Tryz.func6 gf6 (λ_ j=>⟨sf7.at j,sf9.at j,Wo.at j,aaP.at j,aaQ.at j,JE.at j,Wn.at j,aaR.at j,aaS.at j,trivial⟩) (λ_ _=>by kernel_rfl)
def qY {ρ:Type}(k:Nat):Nat->(List Int)->(List Int)->Int->((T1->Option ρ)×((T2×Unit)->Option ρ)×Unit)->Option ρ|0,_,_,_,_=>none|j+1,v10,v11,v12,nx=>bif(decide (v12<(v10.length:Int)))then(aq v10 v12).bind λx13=>(aq v11 v12).bind λx14=>bif(x13 !=x14)then nx.2.1 ((false,()),())else qY k j v10 v11 (wr .i64 (v12+1)) nx else nx.1 ((),())
def Gk (k:Nat):Cut:=⟨⟨[(0,.c (.sl (.int .i64))),(1,.c (.sl (.int .i64))),(5,.c (.int .i64))],[],[]⟩,[(.exit 0,⟨[],[],[]⟩),(.ret,⟨[(4,.c .bool)],[],[]⟩)],λρ j v nx=>qY k j v.1.1 v.1.2.1 v.1.2.2.1 nx⟩
def f17 (k:Nat)(a1 a2:(List Int)):Option (T2×Unit):=bif((a1.length:Int) !=(a2.length:Int))then some ((false,()),())else qY k k a1 a2 0 (λx8:T1=>some ((true,()),()),λx9:(T2×Unit)=>some ((x9.1.1,()),()),())
def Uk :af:=ee 17 [(0,.c (.sl (.int .i64))),(1,.c (.sl (.int .i64)))] [(0,.c .bool)] λk v=>f17 k v.1.1 v.1.2.1
def Vl (k:Nat):Full:=fl k 26 [] (cuts:=[(4,(Gk k))])
theorem SH (k:Nat):aF (Vl k) (Gk k) (au Tryz.f17 4):=λρ v nx=>⟨by kernel_rfl,λj=>by kernel_rfl⟩
theorem aaM :SN Uk:=so Tryz.func17 Vl (λ_ _=>trivial) (λ_ _=>by kernel_rfl) (hob:=λk=>Eq.mpr (by kernel_rfl) (And.intro (SH k) (trivial)))
def qZ {ρ:Type}(k:Nat):Nat->Int->Int->(List Int)->(((T0×T12)->Option ρ)×Unit)->Option ρ|0,_,_,_,_=>none|j+1,v7,v8,v9,nx=>bif(decide (v8<(v9.length:Int)))then bif decide (0≤v8)&&decide (v8<(v9.length:Int))then(v9[v8.toNat]?).bind λ_=>qZ k j (wr .i64 (v7+1)) (wr .i64 (v8+1)) (v9.set v8.toNat v7) nx else none else nx.1 ((v7,()),(v9,()))
def Gl (k:Nat):Cut:=⟨⟨[(0,.c (.lit (.row 3000000))),(1,.c (.int .i64)),(5,.c (.int .i64))],[(3000000,.row 2 (.int .i64))],[(3000000,some 3000000)]⟩,[(.exit 0,⟨[(1,.c (.int .i64))],[(3000000,.row 2 (.int .i64))],[(3000000,some 3000000)]⟩)],λρ j v nx=>qZ k j v.1.2.1 v.1.2.2.1 v.2.1 nx⟩
def f19 (k:Nat)(a1:Int)(a2:(List Int)):Option (T0×T12):=
 qZ k k a1 0 a2
  (λx6:(T0×T12)=>some ((x6.1.1,()),(x6.2.1,())),
  ())
def Ul :af:=⟨19,⟨[(0,.c (.row 3000000)),(1,.c (.int .i64))],[(3000000,.row 2 (.int .i64))],[]⟩,⟨[(0,.c (.int .i64))],[(3000000,.row 2 (.int .i64))],[(3000000,some 3000000)]⟩,λk v=>f19 k v.1.2.1 v.2.1⟩
def Vm (k:Nat):Full:=fl k 19 [] (cuts:=[(2,(Gl k))])
theorem SI (k:Nat):aF (Vm k) (Gl k) (au Tryz.f19 2):=λρ v nx=>⟨by kernel_rfl,λj=>by kernel_rfl⟩
theorem aaN :SN Ul:=so Tryz.func19 Vm (λ_ _=>trivial) (λ_ _=>by kernel_rfl) (hob:=λk=>Eq.mpr (by kernel_rfl) (And.intro (SI k) (trivial)))
def q7 {ρ:Type}(k:Nat):Nat->(List Int)->Int->Int->(((T0×Unit)->Option ρ)×((T0×Unit)->Option ρ)×Unit)->Option ρ|0,_,_,_,_=>none|j+1,v9,v10,v11,nx=>bif(decide (v11<(v9.length:Int)))then(aq v9 v11).bind λx12=>bif(x12 !=v10)then nx.2.1 (((-1),()),())else q7 k j v9 (wr .i64 (v10+1)) (wr .i64 (v11+1)) nx else nx.1 ((v10,()),())
def Gm (k:Nat):Cut:=⟨⟨[(0,.c (.sl (.int .i64))),(1,.c (.int .i64)),(5,.c (.int .i64))],[],[]⟩,[(.exit 0,⟨[(1,.c (.int .i64))],[],[]⟩),(.ret,⟨[(4,.c (.int .i64))],[],[]⟩)],λρ j v nx=>q7 k j v.1.1 v.1.2.1 v.1.2.2.1 nx⟩
def f20 (k:Nat)(a1:(List Int))(a2:Int):Option (T0×Unit):=
 q7 k k a1 a2 0
  (λx7:(T0×Unit)=>some ((x7.1.1,()),()),
  λx8:(T0×Unit)=>some ((x8.1.1,()),()),
  ())
def Um :af:=ee 20 [(0,.c (.sl (.int .i64))),(1,.c (.int .i64))] [(0,.c (.int .i64))] λk v=>f20 k v.1.1 v.1.2.1
def Vn (k:Nat):Full:=fl k 21 [] (cuts:=[(2,(Gm k))])
theorem SJ (k:Nat):aF (Vn k) (Gm k) (au Tryz.f20 2):=λρ v nx=>⟨by kernel_rfl,λj=>by kernel_rfl⟩
theorem aaO :SN Um:=so Tryz.func20 Vn (λ_ _=>trivial) (λ_ _=>by kernel_rfl) (hob:=λk=>Eq.mpr (by kernel_rfl) (And.intro (SJ k) (trivial)))
def f5 (k:Nat)(a1:T6)(a2:(List T5)):Option (T2×Unit):=(f7 k a1 a2 1048576).bind λx22=>bif(decide (x22.1.1<0))then some ((true,()),())else(f9 k a1 a2).bind λx23=>(f15 k x23.2.1 x23.2.2.1).bind λx24=>(f9 k a1 a2).bind λx25=>(f16 k x25.2.1 x25.2.2.1).bind λx26=>(f17 k x26.2.1 x24.2.1).bind λx28=>bif(!x28.1.1)then some ((false,()),())else bif(x26.1.2.1 !=x24.1.2.1)then some ((false,()),())else(f9 k a1 a2).bind λx31=>(f11 k x25.2.1 x25.2.2.1 x31.2.1 x31.2.2.1).bind λx32=>bif(!x32.1.1)then some ((false,()),())else(f18 k 1 x25.2.1 x25.2.2.1).bind λx33=>bif(decide (x33.1.1<0))then some ((false,()),())else(f17 k x26.2.1 x24.2.1).bind λx35=>bif(!x35.1.1)then some ((false,()),())else bif(x26.1.2.1 !=x24.1.2.1)then some ((false,()),())else(f19 k 1 x26.2.1).bind λx36=>(f20 k x36.2.1 1).bind λx37=>bif(decide (x37.1.1<0))then some ((false,()),())else bif(x37.1.1 !=x36.1.1)then some ((false,()),())else(f9 k a1 a2).bind λx38=>(f16 k x38.2.1 x38.2.2.1).bind λx39=>(f17 k x39.2.1 x24.2.1).bind λx41=>bif(!x41.1.1)then some ((false,()),())else bif(x39.1.2.1 !=x24.1.2.1)then some ((false,()),())else(f20 k x36.2.1 1).bind λx42=>bif(decide (x42.1.1<0))then some ((false,()),())else bif(x42.1.1 !=x36.1.1)then some ((false,()),())else some ((true,()),())
def ef5 :af:=ee 5 [(0,.agg k2)] [(0,.c .bool)] λk v=>f5 k v.1.1.1 v.1.1.2.1
def gf5 (k:Nat):Full:=fl k 96 [ef7,ef9,ME,MF,Uk,Eh,MG,Ul,Um]
theorem sf5 :SN ef5:=so Tryz.func5 gf5 (λ_ j=>⟨sf7.at j,sf9.at j,Wj.at j,Wk.at j,aaM.at j,JE.at j,Wn.at j,aaN.at j,aaO.at j,trivial⟩) (λ_ _=>by kernel_rfl)
end Go.Proofs.YtlkkaielmdlefaaGreatDoor.R
namespace Go.Proofs.YtlkkaielmdlefaaGreatDoor.R1
open Go.RowKit Go.Deep Go.WideShapes
set_option linter.unusedVariables false
def yes (o:Option ((Bool×Unit)×Unit)):Bool:=match o with
 |some ((true,_),_)=>true
 |_=>false
abbrev Old (w:World):Nat->Prop:=λg=>g<w.heap.size
def Ok :(u:U)->El u->Prop
 |.int k,n=>(Lit.int k n).wf=true
 |.bool,_=>True
 |.str,s=>s.size≤maxLen
 |.unit,_=>True
 |.pair a b,x=>Ok a x.1/\Ok b x.2
 |.sl e,l=>l.length≤maxLen/\∀y∈l,Ok e y
def Opn (P:Program)(t:TypeId)(u:U):Prop:=
 ∀{H:Type}(enc:TypeId×Value->H)(w:World)(base:Nat)(spare:Nat->Bool)(held:Bool)(fuel:Nat)(cs:List Value)(x:DataW H×List MemPlace),
  DataW.trod enc P w base spare held fuel t cs=some x->∃a:El u,Rep (Old w) w u a cs/\Ok u a
theorem vp {P:Program}{t:TypeId}{k:IntKind}(hu:P.underlying t=some (.int k)):Opn P t (.int k):=by intro H enc w base spare held fuel cs x h;obtain⟨n,rfl,_,hw⟩:=DataW.trod_int hu h;exact⟨n,rfl,hw⟩
theorem Mem.OM {w:World}{base:Nat}{a:Addr}{n:Nat}{cs:List Value}(h:w.cells? base a n=some cs):Mem w a cs:=by
 intro i u hi;unfold World.cells? at h;split at h
 . have hl:=mapM_some_length h;have hlt:i<n:=by have:=(gq.1 hi).1;simp at hl;omega
   have:=mapM_some_get h i i (by simp[hlt]);rw[this];exact hi
 . simp at h
theorem Mem.append {w:World}{a:Addr}{l r:List Value}(h1:Mem w a l)(h2:Mem w (a.add l.length) r):Mem w a (l++r):=by
 intro j v hv;by_cases hj:j<l.length
 . rw[gI hj]at hv;exact h1 j v hv
 . rw[jJ (by omega)]at hv;have:=h2 _ v hv;rwa[add_add,show l.length+(j-l.length)=j by omega]at this
theorem ib {P:Program}{t e:TypeId}{u:U}(hu:P.underlying t=some (.slice e))(hd:Opn P e u)(hsz:P.cellsOf e=u.n):Opn P t (.sl u):=by
 intro H enc w base spare held fuel cs x h;rcases open_slice hu h with⟨rfl,_⟩|⟨a,len,cap,m,n,D,Pl,rfl,_,hl,hc,hm,_,hel⟩
 . exact⟨[],⟨none,0,[],rfl,aM _,rfl,rfl,rfl⟩,eC _,λy hy=>by cases hy⟩
 . have hlm:len≤m:=by rw[hm];split<;>omega
   have key:∀j,j≤len->∃(l:List (El u))(flat:List Value),l.length=j/\b9 (Rep (Old w) w u) l flat/\Mem w a flat/\∀y∈l,Ok u y:=by
    intro j
    induction j with
    |zero=>exact λ_=>⟨[],[],rfl,rfl,λj v hv=>by simp at hv,λy hy=>by cases hy⟩
    |succ j ih=>
     intro hj;obtain⟨l,flat,h1,h2,h3,h4⟩:=ih (by omega);obtain⟨cs',k1,k2⟩:=hel j (by omega);obtain⟨y,hy,hok⟩:=hd enc w base spare held n cs' _ k2;refine⟨l++[y],flat++cs',by simp[h1],h2.append ⟨cs',[],by simp,hy,rfl⟩,h3.append ?_,λz hz=> ?_⟩
     . rw[h2.length,h1,<-hsz];exact Mem.OM k1
     . rcases aC.1 hz with hz|hz
       . exact h4 z hz
       . obtain rfl:=bG.1 hz;exact hok
   obtain⟨l,flat,h1,h2,h3,h4⟩:=key len (aM _);exact⟨l,⟨some a,cap,flat,by rw[h1],by rw[h1];exact hl,h2,h3,λhne=>h3.lt hne⟩,by rw[h1];omega,h4⟩
theorem aN {l:List Value}{n:Nat}(h:l.length=n+1):∃a r,l=a::r/\r.length=n:=by
 cases l with
 |nil=>cases h
 |cons a r=>exact⟨a,r,rfl,by simpa using h⟩
theorem nl {S:Nat->Prop}{w:World}{φ:Nat->Value}{h:Nat->B}{i:Nat}{k:VK}{r:List (Nat×VK)}{x:nJ ((i,k)::r)}{a:Nat->Value}(h0:gx S w φ h (k.mkW x.1) (a i))(hr:∀j,bB S w φ h (gD r x.2 j) (a j)):
    ∀j,bB S w φ h (gD ((i,k)::r) x j) (a j):=by
 intro j;simp only[gD];by_cases e:j=i
 . subst e;rw[aj];exact h0
 . rw[az _ _ e];exact hr j
end Go.Proofs.YtlkkaielmdlefaaGreatDoor.R1
