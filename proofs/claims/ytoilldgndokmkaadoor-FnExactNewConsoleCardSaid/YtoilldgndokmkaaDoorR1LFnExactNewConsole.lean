/- The law FnExactNewConsole, as it is given: out of its plain twin and the contract of its call. -/
import Derived.Test.YtoilldgndokmkaaDoorRows
import Derived.Test.YtoilldgndokmkaaDoorR1PFnExactNewConsole
import Derived.WalkKit
import Derived.ProofKit
import Derived.OpenShut
import Derived.ShutString
import Derived.ChangeOld
import Derived.Below
import Derived.SizedLaws
import Derived.Test.YtoilldgndokmkaaDoorCards
import Derived.Test.YtoilldgndokmkaaDoorTie
import Derived.LaidMore
import Derived.Lay
import Derived.SevenTiedAt
import Derived.Stop.Joined
import Derived.MakeChecks
namespace Go.Proofs.YtoilldgndokmkaaDoor.fnExactNewConsole
open Go.ChangeShapes Go.WideShapes Go.ChangeAt Go.RowKit Go.Deep Go.Proofs.YtoilldgndokmkaaDoor.R1 Go.Proofs.YtoilldgndokmkaaDoor.R
open Go.ChangeMaps (open_string shut_string)
set_option linter.unusedVariables false
theorem own : ownKnob Tryd.prog.godebug = none := by kernel_rfl
theorem laidOut : laidOutB Tryd.prog = true := by kernel_rfl
set_option maxRecDepth 100000 in
theorem lifted (os : Os) (started : os.Started) (H : Type) (enc : TypeId × Value → H) :
    ReturnsInHanded {} Tryd.checked os 3 .any (fun w args => (Rows.fnExactNewConsoleSpec.pre enc Tryd.prog Tryd.f3 Rows.fnExactNewConsoleRow.domain false w args ∧ laidMetH Tryd.prog Rows.fnExactNewConsoleRow.laid w) ∧ sizedMet enc Tryd.prog Tryd.f3 (OpenSpec.ofChange Rows.fnExactNewConsoleSpec) false w args) (Rows.fnExactNewConsoleSpec.post enc Tryd.prog Tryd.f3 false true false false) := by
  refine returnsInHanded_of_change_and (C := Tryd.checked) (X := (fun w _ => laidMetH Tryd.prog Rows.fnExactNewConsoleRow.laid w)) (fun _ _ _ hh h => h.of_heap hh) own started (by kernel_rfl) Tryd.func3
    (ChangeSpec.witness_shaped (enc := enc) (C := Tryd.checked) (os := os) (X := (fun w _ => laidMetH Tryd.prog Rows.fnExactNewConsoleRow.laid w)) false (World.laidAll Tryd.prog os Rows.fnExactNewConsoleRow.laid) #[] 8 (World.laidAll_os _ _ _)
      (World.shaped_of_ZipB (by kernel_rfl) (by kernel_rfl)) (by kernel_rfl) (by kernel_rfl) (by kernel_rfl)
      (by rw [MakeChecks.laidMetH_plain _ _ _ (by kernel_rfl)]; exact laidMet_laidAll _ (by kernel_rfl) (by kernel_rfl))) ?_
  intro W base args ds gs before hval0 hW hcnd hsz0 hX0 _
  have hval : ∀ (j : Nat) t v, Tryd.f3.params[j]? = some t → args[j]? = some v → Value.okWide Tryd.prog W .any base t v := hval0
  have hW' := hW
  obtain ⟨p, q, hA0, hV, rfl, hfz, hnd⟩ := hW
  have hA : DataW.TrodAll enc Tryd.prog W 0 (fun _ => true) true Tryd.f3.params.toList args.toList ds p := hA0
  rw [Tryd.params3] at hA hval
  obtain ⟨hargs, rfl, rfl⟩ := trodAll_none hA
  obtain rfl : args = #[] := by cases args; simp_all
  obtain ⟨g0, gs0, qq0, rfl, hv0⟩ := trodVars_next hV
  obtain ⟨rfl, _⟩ := trodVars_none hv0
  have hX1 : laidMet Tryd.prog Rows.fnExactNewConsoleRow.laid W := by
    have hX : laidMetH Tryd.prog Rows.fnExactNewConsoleRow.laid W := hX0
    rwa [MakeChecks.laidMetH_plain _ _ _ (by kernel_rfl)] at hX
  have hgl : GlobsAt W gl := ⟨⟨by kernel_rfl, by decide, glob_at (k := 8) (n := 8) (t := 112) (Go.Lib.laidMet.reads (n := "loop.example/g00857/impl.vectors") (d := Rows.laid_loop_example_g00857_impl_vectors) hX1 (List.Mem.head _)) (by kernel_rfl) (by kernel_rfl) (by kernel_rfl)⟩, trivial⟩
  clear hA0 hval0 hsz0
  obtain ⟨k, h⟩ := pureFnExactNewConsole
  refine (law_true_g (gl := gl) sf3 (k := k) (v := ((), ())) h W hgl #[] rfl (fun φ => (fun j => trivial)) rfl).mono fun e W' hp => ?_
  obtain ⟨he, bel⟩ := hp
  subst he
  exact ⟨_, rfl, _, _, _, [], _, _, hW', trodAll_mk1 (shut_bool Tryd.underlying4 _), trodAll_mk0, trodVars_below laidOut bel (by kernel_rfl) hV, bel.frame _, fun h => by cases h⟩
theorem over : Rows.fnExactNewConsoleRow.holds Tryd.pinned (OpenSpec.ofChange Rows.fnExactNewConsoleSpec) :=
  OpenClaim.holds_of_wide 3 Tryd.f3 rfl rfl rfl rfl rfl rfl rfl ⟨rfl, rfl, rfl, rfl, rfl⟩ rfl rfl rfl rfl rfl (by kernel_rfl) Tryd.func3 (by kernel_rfl)
    (of_decide_eq_true (by kernel_rfl)) (by unfold Func.isWrapper; first | (rw [if_pos (by decide +kernel)]; kernel_rfl) | (rw [if_neg (by decide +kernel)]; exact ⟨rfl, rfl⟩))
    (fun os started H enc _ => lifted os started H enc)
theorem proved : Rows.FnExactNewConsoleCardSaid :=
  Claim7.holds_tied_plain_at .later [] [.data] true (true, "13f3ac1c179f9505ef9ff880642e735191b10ca1972b35aa3aa4e72995b74c88") false over (fun _ h => by cases h) (by kernel_rfl) (fun _ h => by cases h) fnExactNewConsole_row_tie rfl ⟨rfl, rfl⟩ (by kernel_rfl) rfl
    (fun f fn hf hfn => by
      obtain rfl : f = 3 := Option.some.inj ((show Tryd.prog.funcNamed "loop.example/g00857/laws.FnExactNewConsole" = some 3 by kernel_rfl).symm.trans hf) |>.symm
      obtain rfl : fn = Tryd.f3 := (Option.some.inj (Tryd.func3.symm.trans hfn)).symm
      exact ⟨by kernel_rfl, fun j t ht => by rw [Tryd.params3] at ht; simp at ht⟩)
    (by kernel_rfl)
#print axioms proved
end Go.Proofs.YtoilldgndokmkaaDoor.fnExactNewConsole
namespace Go.Proofs.YtoilldgndokmkaaDoor
/-- The card, under a short name, for the claim. -/
theorem fnExactNewConsole_holds : Rows.FnExactNewConsoleCardSaid := fnExactNewConsole.proved
end Go.Proofs.YtoilldgndokmkaaDoor
