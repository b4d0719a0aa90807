/- The law FnExactSectorOrders, as it is given: out of its plain twin and the contract of its call. -/
import Derived.Test.YtlajiknepcjhgaaRows
import Derived.Test.YtlajiknepcjhgaaR1PFnExactSectorOrders
import Derived.WalkKit
import Derived.ProofKit
import Derived.OpenShut
import Derived.ShutString
import Derived.ChangeOld
import Derived.Below
import Derived.SizedLaws
namespace Go.Proofs.Ytlajiknepcjhgaa.fnExactSectorOrders
open Go.ChangeShapes Go.WideShapes Go.ChangeAt Go.RowKit Go.Deep Go.Proofs.Ytlajiknepcjhgaa.R1 Go.Proofs.Ytlajiknepcjhgaa.R
open Go.ChangeMaps (open_string shut_string)
set_option linter.unusedVariables false
theorem opn2 : Opn Try.prog 2 (.int .i64) := opn_int Try.underlying2
theorem opn22 : Opn Try.prog 22 (.sl (.int .i64)) := opn_slice Try.underlying22 opn2 (by kernel_rfl)
theorem own : ownKnob Try.prog.godebug = none := by kernel_rfl
theorem laidOut : laidOutB Try.prog = true := by kernel_rfl
set_option maxRecDepth 100000 in
theorem lifted (os : Os) (started : os.Started) (H : Type) (enc : TypeId × Value → H) :
    ReturnsInHanded {} Try.checked os 3 .any (Rows.fnExactSectorOrdersSpec.pre6 enc Try.prog Try.f3 Rows.fnExactSectorOrdersRow.domain false) (Rows.fnExactSectorOrdersSpec.post enc Try.prog Try.f3 false true false false) := by
  refine returnsInHanded_of_change_sized (C := Try.checked) own started (by kernel_rfl) Try.func3
    (ChangeSpec.witness6 (enc := enc) (C := Try.checked) false ⟨#[], #[.slice none 0 0, .slice none 0 0], []⟩ 8 (by kernel_rfl) (by kernel_rfl) (by kernel_rfl) (by kernel_rfl)) ?_
  intro W base args ds gs before hval0 hW hcnd hsz0 _
  have hval : ∀ (j : Nat) t v, Try.f3.params[j]? = some t → args[j]? = some v → Value.okWide Try.prog W .any base t v := hval0
  have hW' := hW
  obtain ⟨p, q, hA0, hV, rfl, hfz, hnd⟩ := hW
  have hA : DataW.TrodAll enc Try.prog W 0 (fun _ => true) true Try.f3.params.toList args.toList ds p := hA0
  rw [Try.params3] at hA hval
  obtain ⟨v0, vs0, d0, ds0, p0, q0, hargs, rfl, rfl, h0, r0⟩ := trodAll_cons hA
  obtain ⟨v1, vs1, d1, ds1, p1, q1, rfl, rfl, rfl, h1, r1⟩ := trodAll_cons r0
  obtain ⟨rfl, rfl, rfl⟩ := trodAll_nil r1
  obtain rfl : args = #[v0, v1] := by cases args; simp_all
  obtain ⟨rfl, rfl⟩ := trodVars_none hV
  have hgl : GlobsAt W gl := trivial
  have k0 := h0
  have lt0 : ∀ x ∈ p0, x.block < W.heap.size := by obtain ⟨m, hm⟩ := k0; exact DataW.trod_lt m _ _ _ hm
  obtain ⟨fuel0, hf0⟩ := h0
  obtain ⟨x0, K0, o0⟩ := opn22 enc W 0 _ _ _ _ _ hf0
  obtain ⟨A0, len0, cap0, rfl⟩ := okWide_slice Try.underlying22 (hval 0 22 v0 rfl rfl)
  have k1 := h1
  have lt1 : ∀ x ∈ p1, x.block < W.heap.size := by obtain ⟨m, hm⟩ := k1; exact DataW.trod_lt m _ _ _ hm
  obtain ⟨fuel1, hf1⟩ := h1
  obtain ⟨x1, K1, o1⟩ := opn22 enc W 0 _ _ _ _ _ hf1
  obtain ⟨A1, len1, cap1, rfl⟩ := okWide_slice Try.underlying22 (hval 1 22 v1 rfl rfl)
  clear hA0 hval0 hsz0
  obtain ⟨k, h⟩ := pureFnExactSectorOrders x0 o0 x1 o1
  refine (law_true_g (gl := gl) sf3 (k := k) (v := ((x0, x1, ()), ())) h W hgl #[.slice A0 len0 cap0, .slice A1 len1 cap1] rfl (fun φ => (temps_rel (K0) (temps_rel (K1) (fun j => trivial)))) rfl).mono fun e W' hp => ?_
  obtain ⟨he, bel⟩ := hp
  subst he
  exact ⟨_, rfl, _, _, _, [], _, [], hW', trodAll_mk1 (shut_bool Try.underlying4 _), (trodAll_cons_mk (Below.trod laidOut (by kernel_rfl) (of_decide_eq_true (by kernel_rfl)) k0 bel lt0) (trodAll_cons_mk (Below.trod laidOut (by kernel_rfl) (of_decide_eq_true (by kernel_rfl)) k1 bel lt1) trodAll_mk0)), rfl, bel.frame _, fun h => by cases h⟩
theorem over : Rows.fnExactSectorOrdersRow.holds Try.pinned (OpenSpec.ofChange Rows.fnExactSectorOrdersSpec) :=
  OpenClaim.holds_of_wide 3 Try.f3 rfl rfl rfl rfl rfl rfl rfl ⟨rfl, rfl, rfl, rfl, rfl⟩ rfl rfl rfl rfl rfl (by kernel_rfl) Try.func3 (by kernel_rfl)
    (of_decide_eq_true (by kernel_rfl)) (by unfold Func.isWrapper; first | (rw [if_pos (by decide +kernel)]; kernel_rfl) | (rw [if_neg (by decide +kernel)]; exact ⟨rfl, rfl⟩))
    (fun os started H enc _ => lifted os started H enc)
theorem proved : Rows.FnExactSectorOrdersSaid := over
#print axioms proved
end Go.Proofs.Ytlajiknepcjhgaa.fnExactSectorOrders
namespace Go.Proofs.Ytlajiknepcjhgaa
/-- The row, under a short name, for the claim. -/
theorem fnExactSectorOrders_holds : Rows.FnExactSectorOrdersSaid := fnExactSectorOrders.proved
end Go.Proofs.Ytlajiknepcjhgaa
