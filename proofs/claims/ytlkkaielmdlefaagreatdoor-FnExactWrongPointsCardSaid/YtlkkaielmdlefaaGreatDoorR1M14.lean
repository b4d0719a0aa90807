/- Part 14: The law FnExactWrongPoints, as it is given: out of its plain twin and the contract of its call. -/
import Derived.Test.YtlkkaielmdlefaaGreatDoorRows
import Derived.Test.YtlkkaielmdlefaaGreatDoorR1M13
import Derived.WalkKit
import Derived.ProofKit
import Derived.OpenShut
import Derived.ShutString
import Derived.ChangeOld
import Derived.Below
import Derived.SizedLaws
import Derived.Test.YtlkkaielmdlefaaGreatDoorCards
import Derived.Test.YtlkkaielmdlefaaGreatDoorTie
import Derived.LaidMore
import Derived.Lay
import Derived.SevenTiedAt
import Derived.Stop.Joined
import Derived.MakeChecks
set_option linter.unusedVariables false
namespace Go.Proofs.YtlkkaielmdlefaaGreatDoor.fnExactWrongPoints
open Go.ChangeShapes Go.WideShapes Go.ChangeAt Go.RowKit Go.Deep R1 R
open Go.ChangeMaps (open_string shut_string)
set_option linter.unusedVariables false
theorem fg :Opn Tryz.prog 2 (.int .i64):=vp Tryz.underlying2
theorem lm :Opn Tryz.prog 73 (.pair (.int .i64) (.pair (.int .i64) (.int .i64))):=by
 intro H enc w base spare held fuel cs x h;obtain⟨xs,n,_,_,hlen,hxl,hf⟩:=DataW.trod_struct Tryz.underlying73 h;have hcz:Tryz.prog.cellsOf 73=3:=by kernel_rfl
 rw[hcz]at hlen;obtain⟨c0,cs0,rfl,l0⟩:=aN (n:=2) hlen;obtain⟨c1,cs1,rfl,l1⟩:=aN (n:=1) l0;obtain⟨c2,cs2,rfl,l2⟩:=aN (n:=0) l1;obtain rfl:=db l2;have e0:DataW.trod enc Tryz.prog w base spare held n 2 (([c0,c1,c2].drop 0).take (Tryz.prog.cellsOf 2))=some _:=(hf 0 _ rfl).trans (aL (by rw[hxl];decide));rw[show Tryz.prog.cellsOf 2=1 from by kernel_rfl]at e0;obtain⟨a0,h0,o0⟩:=fg enc w base spare held n [c0] _ e0;have e1:DataW.trod enc Tryz.prog w base spare held n 2 (([c0,c1,c2].drop 1).take (Tryz.prog.cellsOf 2))=some _:=(hf 1 _ rfl).trans (aL (by rw[hxl];decide));rw[show Tryz.prog.cellsOf 2=1 from by kernel_rfl]at e1;obtain⟨a1,h1,o1⟩:=fg enc w base spare held n [c1] _ e1;have e2:DataW.trod enc Tryz.prog w base spare held n 2 (([c0,c1,c2].drop 2).take (Tryz.prog.cellsOf 2))=some _:=(hf 2 _ rfl).trans (aL (by rw[hxl];decide));rw[show Tryz.prog.cellsOf 2=1 from by kernel_rfl]at e2;obtain⟨a2,h2,o2⟩:=fg enc w base spare held n [c2] _ e2;exact⟨(a0,(a1,a2)),⟨[c0],[c1,c2],rfl,h0,⟨[c1],[c2],rfl,h1,h2⟩⟩,⟨o0,⟨o1,o2⟩⟩⟩
theorem sU :Opn Tryz.prog 75 (.pair (.pair (.int .i64) (.pair (.int .i64) (.int .i64))) (.pair (.int .i64) (.pair (.int .i64) (.int .i64)))):=by
 intro H enc w base spare held fuel cs x h;obtain⟨xs,n,_,_,hlen,hxl,hf⟩:=DataW.trod_struct Tryz.underlying75 h;have hcz:Tryz.prog.cellsOf 75=6:=by kernel_rfl
 rw[hcz]at hlen;obtain⟨c0,cs0,rfl,l0⟩:=aN (n:=5) hlen;obtain⟨c1,cs1,rfl,l1⟩:=aN (n:=4) l0;obtain⟨c2,cs2,rfl,l2⟩:=aN (n:=3) l1;obtain⟨c3,cs3,rfl,l3⟩:=aN (n:=2) l2;obtain⟨c4,cs4,rfl,l4⟩:=aN (n:=1) l3;obtain⟨c5,cs5,rfl,l5⟩:=aN (n:=0) l4;obtain rfl:=db l5;have e0:DataW.trod enc Tryz.prog w base spare held n 73 (([c0,c1,c2,c3,c4,c5].drop 0).take (Tryz.prog.cellsOf 73))=some _:=(hf 0 _ rfl).trans (aL (by rw[hxl];decide));rw[show Tryz.prog.cellsOf 73=3 from by kernel_rfl]at e0;obtain⟨a0,h0,o0⟩:=lm enc w base spare held n [c0,c1,c2] _ e0;have e1:DataW.trod enc Tryz.prog w base spare held n 73 (([c0,c1,c2,c3,c4,c5].drop 3).take (Tryz.prog.cellsOf 73))=some _:=(hf 1 _ rfl).trans (aL (by rw[hxl];decide));rw[show Tryz.prog.cellsOf 73=3 from by kernel_rfl]at e1;obtain⟨a1,h1,o1⟩:=lm enc w base spare held n [c3,c4,c5] _ e1;exact⟨(a0,a1),⟨[c0,c1,c2],[c3,c4,c5],rfl,h0,h1⟩,⟨o0,o1⟩⟩
theorem sR :Opn Tryz.prog 22 (.sl (.pair (.pair (.int .i64) (.pair (.int .i64) (.int .i64))) (.pair (.int .i64) (.pair (.int .i64) (.int .i64))))):=ib Tryz.underlying22 sU (by kernel_rfl)
theorem sV :Opn Tryz.prog 79 (.pair (.int .i64) (.pair (.int .i64) (.int .i64))):=by
 intro H enc w base spare held fuel cs x h;obtain⟨xs,n,_,_,hlen,hxl,hf⟩:=DataW.trod_struct Tryz.underlying79 h;have hcz:Tryz.prog.cellsOf 79=3:=by kernel_rfl
 rw[hcz]at hlen;obtain⟨c0,cs0,rfl,l0⟩:=aN (n:=2) hlen;obtain⟨c1,cs1,rfl,l1⟩:=aN (n:=1) l0;obtain⟨c2,cs2,rfl,l2⟩:=aN (n:=0) l1;obtain rfl:=db l2;have e0:DataW.trod enc Tryz.prog w base spare held n 2 (([c0,c1,c2].drop 0).take (Tryz.prog.cellsOf 2))=some _:=(hf 0 _ rfl).trans (aL (by rw[hxl];decide));rw[show Tryz.prog.cellsOf 2=1 from by kernel_rfl]at e0;obtain⟨a0,h0,o0⟩:=fg enc w base spare held n [c0] _ e0;have e1:DataW.trod enc Tryz.prog w base spare held n 2 (([c0,c1,c2].drop 1).take (Tryz.prog.cellsOf 2))=some _:=(hf 1 _ rfl).trans (aL (by rw[hxl];decide));rw[show Tryz.prog.cellsOf 2=1 from by kernel_rfl]at e1;obtain⟨a1,h1,o1⟩:=fg enc w base spare held n [c1] _ e1;have e2:DataW.trod enc Tryz.prog w base spare held n 2 (([c0,c1,c2].drop 2).take (Tryz.prog.cellsOf 2))=some _:=(hf 2 _ rfl).trans (aL (by rw[hxl];decide));rw[show Tryz.prog.cellsOf 2=1 from by kernel_rfl]at e2;obtain⟨a2,h2,o2⟩:=fg enc w base spare held n [c2] _ e2;exact⟨(a0,(a1,a2)),⟨[c0],[c1,c2],rfl,h0,⟨[c1],[c2],rfl,h1,h2⟩⟩,⟨o0,⟨o1,o2⟩⟩⟩
theorem sS :Opn Tryz.prog 23 (.sl (.pair (.int .i64) (.pair (.int .i64) (.int .i64)))):=ib Tryz.underlying23 sV (by kernel_rfl)
theorem sT :Opn Tryz.prog 25 (.pair (.sl (.pair (.pair (.int .i64) (.pair (.int .i64) (.int .i64))) (.pair (.int .i64) (.pair (.int .i64) (.int .i64))))) (.sl (.pair (.int .i64) (.pair (.int .i64) (.int .i64))))):=by
 intro H enc w base spare held fuel cs x h;obtain⟨xs,n,_,_,hlen,hxl,hf⟩:=DataW.trod_struct Tryz.underlying25 h;have hcz:Tryz.prog.cellsOf 25=2:=by kernel_rfl
 rw[hcz]at hlen;obtain⟨c0,cs0,rfl,l0⟩:=aN (n:=1) hlen;obtain⟨c1,cs1,rfl,l1⟩:=aN (n:=0) l0;obtain rfl:=db l1;have e0:DataW.trod enc Tryz.prog w base spare held n 22 (([c0,c1].drop 0).take (Tryz.prog.cellsOf 22))=some _:=(hf 0 _ rfl).trans (aL (by rw[hxl];decide));rw[show Tryz.prog.cellsOf 22=1 from by kernel_rfl]at e0;obtain⟨a0,h0,o0⟩:=sR enc w base spare held n [c0] _ e0;have e1:DataW.trod enc Tryz.prog w base spare held n 23 (([c0,c1].drop 1).take (Tryz.prog.cellsOf 23))=some _:=(hf 1 _ rfl).trans (aL (by rw[hxl];decide));rw[show Tryz.prog.cellsOf 23=1 from by kernel_rfl]at e1;obtain⟨a1,h1,o1⟩:=sS enc w base spare held n [c1] _ e1;exact⟨(a0,a1),⟨[c0],[c1],rfl,h0,h1⟩,⟨o0,o1⟩⟩
theorem own :ownKnob Tryz.prog.godebug=none:=by kernel_rfl
theorem laidOut :laidOutB Tryz.prog=true:=by kernel_rfl
set_option maxRecDepth 100000 in
theorem lifted (os:Os)(started:os.Started)(H:Type)(enc:TypeId×Value->H):
    ReturnsInHanded {} Tryz.checked os 5 .any (λw args=>(Rows.fnExactWrongPointsSpec.pre enc Tryz.prog Tryz.f5 Rows.fnExactWrongPointsRow.domain false w args/\laidMetH Tryz.prog Rows.fnExactWrongPointsRow.laid w)/\sizedMet enc Tryz.prog Tryz.f5 (OpenSpec.ofChange Rows.fnExactWrongPointsSpec) false w args) (Rows.fnExactWrongPointsSpec.post enc Tryz.prog Tryz.f5 false true false false):=by
 refine returnsInHanded_of_change_and (C:=Tryz.checked) (X:=(λw _=>laidMetH Tryz.prog Rows.fnExactWrongPointsRow.laid w)) (λ_ _ _ hh h=>h.of_heap hh) own started (by kernel_rfl) Tryz.func5
  (ChangeSpec.witness_shaped (enc:=enc) (C:=Tryz.checked) (os:=os) (X:=(λw _=>laidMetH Tryz.prog Rows.fnExactWrongPointsRow.laid w)) false (World.laidAll Tryz.prog os Rows.fnExactWrongPointsRow.laid) #[(.agg #[(.slice none 0 0),(.slice none 0 0)])] 8 (World.laidAll_os _ _ _)
   (World.shaped_of_ZipB (by kernel_rfl) (by kernel_rfl)) (by kernel_rfl) (by kernel_rfl) (by kernel_rfl)
   (by rw[MakeChecks.laidMetH_plain _ _ _ (by kernel_rfl)];exact laidMet_laidAll _ (by kernel_rfl) (by kernel_rfl))) ?_
 intro W base args ds gs before hval0 hW hcnd hsz0 hX0 _;have hval:∀(j:Nat) t v,Tryz.f5.params[j]? =some t->args[j]? =some v->Value.okWide Tryz.prog W .any base t v:=hval0;have hW':=hW;obtain⟨p,q,hA0,hV,rfl,hfz,hnd⟩:=hW;have hA:DataW.TrodAll enc Tryz.prog W 0 (λ_=>true) true Tryz.f5.params.toList args.toList ds p:=hA0;rw[Tryz.params5]at hA hval;obtain⟨v0,vs0,d0,ds0,p0,q0,hargs,rfl,rfl,h0,r0⟩:=trodAll_cons hA;obtain⟨rfl,rfl,rfl⟩:=trodAll_nil r0;obtain rfl:args= #[v0]:=by cases args;simp_all
 obtain⟨g0,gs0,qq0,rfl,hv0⟩:=jV hV;obtain⟨rfl,_⟩:=trodVars_none hv0;have hX1:laidMet Tryz.prog Rows.fnExactWrongPointsRow.laid W:=by have hX:laidMetH Tryz.prog Rows.fnExactWrongPointsRow.laid W:=hX0;rwa[MakeChecks.laidMetH_plain _ _ _ (by kernel_rfl)]at hX
 have hgl:jk W gl:=⟨⟨by kernel_rfl,by decide,vh (k:=8) (n:=8) (t:=195) (Go.Lib.laidMet.reads (n:= "loop.example/g00857/impl.vectors") (d:=Rows.laid_loop_example_g00857_impl_vectors) hX1 (List.Mem.head _)) (by kernel_rfl) (by kernel_rfl) (by kernel_rfl)⟩,trivial⟩;have k0:=h0;have lt0:∀x∈p0,x.block<W.heap.size:=by obtain⟨m,hm⟩:=k0;exact DataW.trod_lt m _ _ _ hm
 obtain⟨fuel0,hf0⟩:=h0;obtain⟨x0,K0,o0⟩:=sT enc W 0 _ _ _ _ _ hf0;obtain⟨cs0,rfl,_⟩:=okWide_struct Tryz.underlying25 (hval 0 25 v0 rfl rfl);clear hA0 hval0 hsz0;obtain⟨k,h⟩:=qN x0 o0;refine(nX (gl:=gl) sf5 (k:=k) (v:=(((x0.1,x0.2,()),()),())) h W hgl #[.agg cs0] rfl (λφ=>(nl (⟨cs0,rfl,cP K0⟩) (λj=>trivial))) rfl).mono λe W' hp=> ?_
 obtain⟨he,bel⟩:=hp;subst he;exact⟨_,rfl,_,_,_,[],_,_,hW',trodAll_mk1 (shut_bool Tryz.underlying4 _),(trodAll_cons_mk (Below.trod laidOut (by kernel_rfl) (eY (by kernel_rfl)) k0 bel lt0) trodAll_mk0),hP laidOut bel (by kernel_rfl) hV,bel.frame _,λh=>by cases h⟩
theorem over :Rows.fnExactWrongPointsRow.holds Tryz.pinned (OpenSpec.ofChange Rows.fnExactWrongPointsSpec):=
 OpenClaim.holds_of_wide 5 Tryz.f5 rfl rfl rfl rfl rfl rfl rfl ⟨rfl,rfl,rfl,rfl,rfl⟩ rfl rfl rfl rfl rfl (by kernel_rfl) Tryz.func5 (by kernel_rfl)
  (eY (by kernel_rfl)) (by unfold Func.isWrapper;first|(rw[ah (by decide+kernel)];kernel_rfl)|(rw[ae (by decide+kernel)];exact⟨rfl,rfl⟩))
  (λos started H enc _=>lifted os started H enc)
theorem proved :Rows.FnExactWrongPointsCardSaid:=
 Claim7.holds_tied_plain_at .later [] [.data] true (true,"683c95ae53657e6b3a89de11bd8a4e051deae520373e039d872537a37179b2f2") false over (λ_ h=>by cases h) (by kernel_rfl) (λ_ h=>by cases h) fnExactWrongPoints_row_tie rfl ⟨rfl,rfl⟩ (by kernel_rfl) rfl
  (λf fn hf hfn=>by
   obtain rfl:f=5:=dk ((show Tryz.prog.funcNamed "loop.example/g00857/laws.FnExactWrongPoints" =some 5 by kernel_rfl).symm.trans hf)|>.symm;obtain rfl:fn=Tryz.f5:=(dk (Tryz.func5.symm.trans hfn)).symm
   exact⟨by kernel_rfl,λj t ht=>by
    have hj:j<Tryz.f5.params.size:=(dU.1 ht).1;have key:∀i:Fin Tryz.f5.params.size,Tryz.prog.wantsStandIn (Tryz.f5.params[i.val]'i.isLt)=false:=by decide+kernel
    have h2:=key ⟨j,hj⟩;rw[(dU.1 ht).2]at h2
    exact h2⟩)
  (by kernel_rfl)
#print axioms proved
end Go.Proofs.YtlkkaielmdlefaaGreatDoor.fnExactWrongPoints
namespace Go.Proofs.YtlkkaielmdlefaaGreatDoor
theorem fnExactWrongPoints_holds :Rows.FnExactWrongPointsCardSaid:=fnExactWrongPoints.proved
end Go.Proofs.YtlkkaielmdlefaaGreatDoor
