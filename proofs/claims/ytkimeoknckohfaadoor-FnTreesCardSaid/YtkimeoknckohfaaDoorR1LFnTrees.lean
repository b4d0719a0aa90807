/- The law FnTrees, as it is given: out of its plain twin and the contract of its call. -/
import Derived.Test.YtkimeoknckohfaaDoorRows
import Derived.Test.YtkimeoknckohfaaDoorR1PFnTrees
import Derived.WalkKit
import Derived.ProofKit
import Derived.OpenShut
import Derived.ShutString
import Derived.ChangeOld
import Derived.Below
import Derived.SizedLaws
import Derived.Test.YtkimeoknckohfaaDoorR1GRowFnTrees
import Derived.Test.YtkimeoknckohfaaDoorCards
import Derived.Test.YtkimeoknckohfaaDoorTie
import Derived.LaidMore
import Derived.Lay
import Derived.SevenTiedAt
import Derived.Stop.Joined
import Derived.MakeChecks
namespace Go.Proofs.YtkimeoknckohfaaDoor.fnTrees
open Go.ChangeShapes Go.WideShapes Go.ChangeAt Go.RowKit Go.Deep Go.Proofs.YtkimeoknckohfaaDoor.R1 Go.Proofs.YtkimeoknckohfaaDoor.R
open Go.ChangeMaps (open_string shut_string)
set_option linter.unusedVariables false
theorem opn5 : Opn Tryd.prog 5 (.int .u8) := opn_int Tryd.underlying5
theorem opn22 : Opn Tryd.prog 22 (.sl (.int .u8)) := opn_slice Tryd.underlying22 opn5 (by kernel_rfl)
theorem own : ownKnob Tryd.prog.godebug = none := by kernel_rfl
theorem laidOut : laidOutB Tryd.prog = true := by kernel_rfl
set_option maxRecDepth 100000 in
theorem lifted (os : Os) (started : os.Started) (H : Type) (enc : TypeId × Value → H) :
    ReturnsInHanded {} Tryd.checked os 3 .any (fun w args => (Rows.fnTreesSpec.pre enc Tryd.prog Tryd.f3 Rows.fnTreesRow.domain false w args ∧ laidMetH Tryd.prog Rows.fnTreesRow.laid w) ∧ sizedMet enc Tryd.prog Tryd.f3 (OpenSpec.ofChange Rows.fnTreesSpec) false w args) (Rows.fnTreesSpec.post enc Tryd.prog Tryd.f3 false true false false) := by
  refine returnsLaid (laid := Rows.fnTreesRow.laid) rfl own started (by kernel_rfl) Tryd.func3
    (ChangeSpec.witness_shaped (enc := enc) (C := Tryd.checked) (os := os) (X := (fun w _ => laidMetH Tryd.prog Rows.fnTreesRow.laid w)) false (World.laidAll Tryd.prog os Rows.fnTreesRow.laid) #[.slice none 0 0] 8 (World.laidAll_os _ _ _)
      (World.shaped_of_ZipB (by kernel_rfl) (by kernel_rfl)) (by kernel_rfl) (by kernel_rfl) (by kernel_rfl)
      (by rw [MakeChecks.laidMetH_plain _ _ _ (by kernel_rfl)]; exact laidMet_laidAll _ (by kernel_rfl) (by kernel_rfl))) ?_
  intro W base args ds gs before hval0 hW hcnd hsz0 hL _
  have hval : ∀ (j : Nat) t v, Tryd.f3.params[j]? = some t → args[j]? = some v → Value.okWide Tryd.prog W .any base t v := hval0
  have hW' := hW
  obtain ⟨p, q, hA0, hV, rfl, hfz, hnd⟩ := hW
  have hA : DataW.TrodAll enc Tryd.prog W 0 (fun _ => true) true Tryd.f3.params.toList args.toList ds p := hA0
  rw [Tryd.params3] at hA hval
  obtain ⟨v0, vs0, d0, ds0, p0, q0, hargs, rfl, rfl, h0, r0⟩ := trodAll_cons hA
  obtain ⟨rfl, rfl, rfl⟩ := trodAll_nil r0
  obtain rfl : args = #[v0] := by cases args; simp_all
  obtain ⟨rfl, rfl⟩ := trodVars_none hV
  have hgl : GlobsAt W gl := globs_of hL
  have k0 := h0
  have lt0 : ∀ x ∈ p0, x.block < W.heap.size := by obtain ⟨m, hm⟩ := k0; exact DataW.trod_lt m _ _ _ hm
  obtain ⟨fuel0, hf0⟩ := h0
  obtain ⟨x0, K0, o0⟩ := opn22 enc W 0 _ _ _ _ _ hf0
  obtain ⟨A0, len0, cap0, rfl⟩ := okWide_slice Tryd.underlying22 (hval 0 22 v0 rfl rfl)
  clear hA0 hval0 hsz0
  obtain ⟨k, h⟩ := pureFnTrees x0 o0
  refine (law_true_g (gl := gl) sf3 (k := k) (v := ((x0, ()), ())) h W hgl #[.slice A0 len0 cap0] rfl (fun φ => (temps_rel (K0) (fun j => trivial))) rfl).mono fun e W' hp => ?_
  obtain ⟨he, bel⟩ := hp
  subst he
  exact ⟨_, rfl, _, _, _, [], _, [], hW', trodAll_mk1 (shut_bool Tryd.underlying4 _), (trodAll_cons_mk (Below.trod laidOut (by kernel_rfl) (of_decide_eq_true (by kernel_rfl)) k0 bel lt0) trodAll_mk0), rfl, bel.frame _, fun h => by cases h⟩
theorem over : Rows.fnTreesRow.holds Tryd.pinned (OpenSpec.ofChange Rows.fnTreesSpec) :=
  OpenClaim.holds_of_wide 3 Tryd.f3 rfl rfl rfl rfl rfl rfl rfl ⟨rfl, rfl, rfl, rfl, rfl⟩ rfl rfl rfl rfl rfl (by kernel_rfl) Tryd.func3 (by kernel_rfl)
    (of_decide_eq_true (by kernel_rfl)) (by unfold Func.isWrapper; first | (rw [if_pos (by decide +kernel)]; kernel_rfl) | (rw [if_neg (by decide +kernel)]; exact ⟨rfl, rfl⟩))
    (fun os started H enc _ => lifted os started H enc)
theorem proved : Rows.FnTreesCardSaid :=
  Claim7.holds_tied_plain_at .later [] [.data, .data, .data, .data, .sentinel, .sentinel, .pinned] true (true, "78ccd95b468fa8372e9f9c856c204802430a1939f03088acb04b5235b47623cc") true over (fun _ h => by cases h) (by kernel_rfl) (fun _ h => by cases h) fnTrees_row_tie rfl ⟨rfl, rfl⟩ (by kernel_rfl) rfl
    (fun f fn hf hfn => by
      obtain rfl : f = 3 := Option.some.inj ((show Tryd.prog.funcNamed "loop.example/g00857/laws.FnTrees" = some 3 by kernel_rfl).symm.trans hf) |>.symm
      obtain rfl : fn = Tryd.f3 := (Option.some.inj (Tryd.func3.symm.trans hfn)).symm
      exact ⟨by kernel_rfl, fun j t ht => by
        have hj : j < Tryd.f3.params.size := (Array.getElem?_eq_some_iff.1 ht).1
        have key : ∀ i : Fin Tryd.f3.params.size, Tryd.prog.wantsStandIn (Tryd.f3.params[i.val]'i.isLt) = false := by decide +kernel
        have h2 := key ⟨j, hj⟩
        rw [(Array.getElem?_eq_some_iff.1 ht).2] at h2
        exact h2⟩)
    (by kernel_rfl)
#print axioms proved
end Go.Proofs.YtkimeoknckohfaaDoor.fnTrees
namespace Go.Proofs.YtkimeoknckohfaaDoor
/-- The card, under a short name, for the claim. -/
theorem fnTrees_holds : Rows.FnTreesCardSaid := fnTrees.proved
end Go.Proofs.YtkimeoknckohfaaDoor
