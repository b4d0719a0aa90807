/- The row of the law FnExactReadTree: out of its pure statement (Pure) and the contract of its call. Written by this session's own program (myprint.py). -/
import Derived.Test.YtddaiabilhjcpaaDoorRows
import Derived.Test.YtddaiabilhjcpaaDoorAx12
import Derived.Test.YtddaiabilhjcpaaDoorAKinds
import Derived.Test.YtddaiabilhjcpaaDoorPureFnExactReadTree
import Derived.WalkKit
import Derived.ProofKit
import Derived.OpenShut
import Derived.ShutString
import Derived.ChangeOld
import Derived.Below
import Derived.SizedLaws
import Derived.Test.YtddaiabilhjcpaaDoorCards
import Derived.Test.YtddaiabilhjcpaaDoorTie
import Derived.LaidMore
import Derived.Lay
import Derived.SevenTiedAt
import Derived.Stop.Joined
import Derived.MakeChecks
import Derived.Test.YtddaiabilhjcpaaDoorALaidRow
namespace Go.Proofs.YtddaiabilhjcpaaDoor.fnExactReadTree
open Go.ChangeShapes Go.WideShapes Go.ChangeAt Go.RowKit Go.Deep Go.Proofs.YtddaiabilhjcpaaDoorW.PrintWords Go.Proofs.YtddaiabilhjcpaaDoorM Go.Proofs.YtddaiabilhjcpaaDoor.A
open Go.ChangeMaps (open_string shut_string)
set_option linter.unusedVariables false
theorem own : ownKnob Tryd.prog.godebug = none := by kernel_rfl
theorem laidOut : laidOutB Tryd.prog = true := by kernel_rfl
set_option maxRecDepth 100000 in
theorem lifted (os : Os) (started : os.Started) (H : Type) (enc : TypeId × Value → H) :
    ReturnsInHanded {} Tryd.checked os 4 .any (fun w args => (Rows.fnExactReadTreeSpec.pre enc Tryd.prog Tryd.f4 Rows.fnExactReadTreeRow.domain false w args ∧ laidMetH Tryd.prog Rows.fnExactReadTreeRow.laid w) ∧ sizedMet enc Tryd.prog Tryd.f4 (OpenSpec.ofChange Rows.fnExactReadTreeSpec) false w args) (Rows.fnExactReadTreeSpec.post enc Tryd.prog Tryd.f4 false true false false) := by
  refine A.returnsLaid (laid := Rows.fnExactReadTreeRow.laid) rfl own started (by kernel_rfl) Tryd.func4
    (ChangeSpec.witness_shaped (enc := enc) (C := Tryd.checked) (os := os) (X := fun w _ => laidMetH Tryd.prog Rows.fnExactReadTreeRow.laid w) false (World.laidAll Tryd.prog os Rows.fnExactReadTreeRow.laid) #[.string ByteArray.empty] 8 (World.laidAll_os _ _ _)
      (World.shaped_of_ZipB (by kernel_rfl) (by kernel_rfl)) (by kernel_rfl) (by kernel_rfl) (by kernel_rfl)
      (by rw [MakeChecks.laidMetH_plain _ _ _ (by kernel_rfl)]; exact laidMet_laidAll _ (by kernel_rfl) (by kernel_rfl))) ?_
  intro W base args ds gs before hval0 hW hcnd hsz0 hL _
  have hval : ∀ (j : Nat) t v, Tryd.f4.params[j]? = some t → args[j]? = some v → Value.okWide Tryd.prog W .any base t v := hval0
  have hW' := hW
  obtain ⟨p, q, hA0, hV, rfl, hfz, hnd⟩ := hW
  have hA : DataW.TrodAll enc Tryd.prog W 0 (fun _ => true) true Tryd.f4.params.toList args.toList ds p := hA0
  rw [Tryd.params4] at hA hval
  obtain ⟨v0, vs0, d0, ds0, p0, q0, hargs, rfl, rfl, h0, r0⟩ := trodAll_cons hA
  obtain ⟨rfl, rfl, rfl⟩ := trodAll_nil r0
  obtain rfl : args = #[v0] := by cases args; simp_all
  obtain ⟨rfl, rfl⟩ := trodVars_none hV
  obtain ⟨x0, rfl, rfl, rfl, o0⟩ := open_string Tryd.underlying9 (hval 0 9 v0 rfl rfl) h0
  clear hA0 hval0 hsz0
  obtain ⟨k, h⟩ := Pure.FnExactReadTree x0 o0
  refine (laws_FnExactReadTree.calls k x0 true W hL h).mono fun e W' hp => ?_
  obtain ⟨he, bel0⟩ := hp
  have bel : Below W.heap.size W W' := bel0
  subst he
  exact ⟨_, rfl, _, _, _, [], _, [], hW', trodAll_mk1 (shut_bool Tryd.underlying4 _), (trodAll_cons_mk (shut_string Tryd.underlying9 o0) trodAll_mk0), rfl, bel.frame _, fun h => by cases h⟩
theorem over : Rows.fnExactReadTreeRow.holds Tryd.pinned (OpenSpec.ofChange Rows.fnExactReadTreeSpec) :=
  OpenClaim.holds_of_wide 4 Tryd.f4 rfl rfl rfl rfl rfl rfl rfl ⟨rfl, rfl, rfl, rfl, rfl⟩ rfl rfl rfl rfl rfl (by kernel_rfl) Tryd.func4 (by kernel_rfl)
    (of_decide_eq_true (by kernel_rfl)) (by unfold Func.isWrapper; first | (rw [if_pos (by decide +kernel)]; kernel_rfl) | (rw [if_neg (by decide +kernel)]; exact ⟨rfl, rfl⟩))
    (fun os started H enc _ => lifted os started H enc)
theorem proved : Rows.FnExactReadTreeCardSaid :=
  Claim7.holds_tied_plain_at .later [] [.data, .data, .data, .data, .sentinel, .sentinel, .pinned] true (true, "07ae75fac3d487af6b8cea860687b64fc71cef2cbb2c4ffc9a29059363327bbc") true over (fun _ h => by cases h) (by kernel_rfl) (fun _ h => by cases h) fnExactReadTree_row_tie rfl ⟨rfl, rfl⟩ (by kernel_rfl) rfl
    (fun f fn hf hfn => by
      obtain rfl : f = 4 := Option.some.inj ((show Tryd.prog.funcNamed "loop.example/g00857/laws.FnExactReadTree" = some 4 by kernel_rfl).symm.trans hf) |>.symm
      obtain rfl : fn = Tryd.f4 := (Option.some.inj (Tryd.func4.symm.trans hfn)).symm
      exact ⟨by kernel_rfl, fun j t ht => by
        have hj : j < Tryd.f4.params.size := (Array.getElem?_eq_some_iff.1 ht).1
        have key : ∀ i : Fin Tryd.f4.params.size, Tryd.prog.wantsStandIn (Tryd.f4.params[i.val]'i.isLt) = false := by decide +kernel
        have h2 := key ⟨j, hj⟩
        rw [(Array.getElem?_eq_some_iff.1 ht).2] at h2
        exact h2⟩)
    (by kernel_rfl)
#print axioms proved
end Go.Proofs.YtddaiabilhjcpaaDoor.fnExactReadTree
namespace Go.Proofs.YtddaiabilhjcpaaDoor
/-- The card, under a short name, for the claim. -/
theorem fnExactReadTree_holds : Rows.FnExactReadTreeCardSaid := fnExactReadTree.proved
end Go.Proofs.YtddaiabilhjcpaaDoor
