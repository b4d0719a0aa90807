/- The law FnExactRefute, as it is given: out of its plain twin and the contract of its call. -/
import Derived.Test.YtiilgicmdnllbaaRows
import Derived.Test.YtiilgicmdnllbaaR1PFnExactRefute
import Derived.WalkKit
import Derived.ProofKit
import Derived.OpenShut
import Derived.ShutString
import Derived.ChangeOld
import Derived.Below
import Derived.SizedLaws
namespace Go.Proofs.Ytiilgicmdnllbaa.fnExactRefute
open Go.ChangeShapes Go.WideShapes Go.ChangeAt Go.RowKit Go.Deep Go.Proofs.Ytiilgicmdnllbaa.R1 Go.Proofs.Ytiilgicmdnllbaa.R
open Go.ChangeMaps (open_string shut_string)
set_option linter.unusedVariables false
theorem opn2 : Opn Try.prog 2 (.int .i64) := opn_int Try.underlying2
theorem opn24 : Opn Try.prog 24 (.sl (.int .i64)) := opn_slice Try.underlying24 opn2 (by kernel_rfl)
theorem opn81 : Opn Try.prog 81 (.pair (.int .i64) (.pair (.sl (.int .i64)) (.sl (.int .i64)))) := by
  intro H enc w base spare held fuel cs x h
  obtain ⟨xs, n, _, _, hlen, hxl, hf⟩ := DataW.trod_struct Try.underlying81 h
  have hcz : Try.prog.cellsOf 81 = 3 := by kernel_rfl
  rw [hcz] at hlen
  obtain ⟨c0, cs0, rfl, l0⟩ := list_cons (n := 2) hlen
  obtain ⟨c1, cs1, rfl, l1⟩ := list_cons (n := 1) l0
  obtain ⟨c2, cs2, rfl, l2⟩ := list_cons (n := 0) l1
  obtain rfl := List.eq_nil_of_length_eq_zero l2
  have e0 : DataW.trod enc Try.prog w base spare held n 2 (([c0, c1, c2].drop 0).take (Try.prog.cellsOf 2)) = some _ := (hf 0 _ rfl).trans (List.getElem?_eq_getElem (by rw [hxl]; decide))
  rw [show Try.prog.cellsOf 2 = 1 from by kernel_rfl] at e0
  obtain ⟨a0, h0, o0⟩ := opn2 enc w base spare held n [c0] _ e0
  have e1 : DataW.trod enc Try.prog w base spare held n 24 (([c0, c1, c2].drop 1).take (Try.prog.cellsOf 24)) = some _ := (hf 1 _ rfl).trans (List.getElem?_eq_getElem (by rw [hxl]; decide))
  rw [show Try.prog.cellsOf 24 = 1 from by kernel_rfl] at e1
  obtain ⟨a1, h1, o1⟩ := opn24 enc w base spare held n [c1] _ e1
  have e2 : DataW.trod enc Try.prog w base spare held n 24 (([c0, c1, c2].drop 2).take (Try.prog.cellsOf 24)) = some _ := (hf 2 _ rfl).trans (List.getElem?_eq_getElem (by rw [hxl]; decide))
  rw [show Try.prog.cellsOf 24 = 1 from by kernel_rfl] at e2
  obtain ⟨a2, h2, o2⟩ := opn24 enc w base spare held n [c2] _ e2
  exact ⟨(a0, (a1, a2)), ⟨[c0], [c1, c2], rfl, h0, ⟨[c1], [c2], rfl, h1, h2⟩⟩, ⟨o0, ⟨o1, o2⟩⟩⟩
theorem opn35 : Opn Try.prog 35 (.sl (.pair (.int .i64) (.pair (.sl (.int .i64)) (.sl (.int .i64))))) := opn_slice Try.underlying35 opn81 (by kernel_rfl)
theorem own : ownKnob Try.prog.godebug = none := by kernel_rfl
theorem laidOut : laidOutB Try.prog = true := by kernel_rfl
set_option maxRecDepth 100000 in
theorem lifted (os : Os) (started : os.Started) (H : Type) (enc : TypeId × Value → H) :
    ReturnsInHanded {} Try.checked os 6 .any (Rows.fnExactRefuteSpec.pre6 enc Try.prog Try.f6 Rows.fnExactRefuteRow.domain false) (Rows.fnExactRefuteSpec.post enc Try.prog Try.f6 false true false false) := by
  refine returnsInHanded_of_change_sized (C := Try.checked) own started (by kernel_rfl) Try.func6
    (ChangeSpec.witness6 (enc := enc) (C := Try.checked) false ⟨#[], #[.slice none 0 0, .int .i64 0, .int .i64 0], []⟩ 8 (by kernel_rfl) (by kernel_rfl) (by kernel_rfl) (by kernel_rfl)) ?_
  intro W base args ds gs before hval0 hW hcnd hsz0 _
  have hval : ∀ (j : Nat) t v, Try.f6.params[j]? = some t → args[j]? = some v → Value.okWide Try.prog W .any base t v := hval0
  have hW' := hW
  obtain ⟨p, q, hA0, hV, rfl, hfz, hnd⟩ := hW
  have hA : DataW.TrodAll enc Try.prog W 0 (fun _ => true) true Try.f6.params.toList args.toList ds p := hA0
  rw [Try.params6] at hA hval
  obtain ⟨v0, vs0, d0, ds0, p0, q0, hargs, rfl, rfl, h0, r0⟩ := trodAll_cons hA
  obtain ⟨v1, vs1, d1, ds1, p1, q1, rfl, rfl, rfl, h1, r1⟩ := trodAll_cons r0
  obtain ⟨v2, vs2, d2, ds2, p2, q2, rfl, rfl, rfl, h2, r2⟩ := trodAll_cons r1
  obtain ⟨rfl, rfl, rfl⟩ := trodAll_nil r2
  obtain rfl : args = #[v0, v1, v2] := by cases args; simp_all
  obtain ⟨rfl, rfl⟩ := trodVars_none hV
  have hgl : GlobsAt W gl := trivial
  have k0 := h0
  have lt0 : ∀ x ∈ p0, x.block < W.heap.size := by obtain ⟨m, hm⟩ := k0; exact DataW.trod_lt m _ _ _ hm
  obtain ⟨fuel0, hf0⟩ := h0
  obtain ⟨x0, K0, o0⟩ := opn35 enc W 0 _ _ _ _ _ hf0
  obtain ⟨A0, len0, cap0, rfl⟩ := okWide_slice Try.underlying35 (hval 0 35 v0 rfl rfl)
  obtain ⟨x1, rfl, rfl, rfl, o1⟩ := open_int Try.underlying2 (hval 1 2 v1 rfl rfl) h1
  obtain ⟨x2, rfl, rfl, rfl, o2⟩ := open_int Try.underlying2 (hval 2 2 v2 rfl rfl) h2
  clear hA0 hval0 hsz0
  obtain ⟨k, h⟩ := pureFnExactRefute x0 o0 x1 o1 x2 o2
  refine (law_true_g (gl := gl) sf6 (k := k) (v := ((x0, x1, x2, ()), ())) h W hgl #[.slice A0 len0 cap0, .int .i64 x1, .int .i64 x2] rfl (fun φ => (temps_rel (K0) (temps_rel (rfl) (temps_rel (rfl) (fun j => trivial))))) rfl).mono fun e W' hp => ?_
  obtain ⟨he, bel⟩ := hp
  subst he
  exact ⟨_, rfl, _, _, _, [], _, [], hW', trodAll_mk1 (shut_bool Try.underlying4 _), (trodAll_cons_mk (Below.trod laidOut (by kernel_rfl) (of_decide_eq_true (by kernel_rfl)) k0 bel lt0) (trodAll_cons_mk (shut_int Try.underlying2 o1) (trodAll_cons_mk (shut_int Try.underlying2 o2) trodAll_mk0))), rfl, bel.frame _, fun h => by cases h⟩
theorem over : Rows.fnExactRefuteRow.holds Try.pinned (OpenSpec.ofChange Rows.fnExactRefuteSpec) :=
  OpenClaim.holds_of_wide 6 Try.f6 rfl rfl rfl rfl rfl rfl rfl ⟨rfl, rfl, rfl, rfl, rfl⟩ rfl rfl rfl rfl rfl (by kernel_rfl) Try.func6 (by kernel_rfl)
    (of_decide_eq_true (by kernel_rfl)) (by unfold Func.isWrapper; first | (rw [if_pos (by decide +kernel)]; kernel_rfl) | (rw [if_neg (by decide +kernel)]; exact ⟨rfl, rfl⟩))
    (fun os started H enc _ => lifted os started H enc)
theorem proved : Rows.FnExactRefuteSaid := over
#print axioms proved
end Go.Proofs.Ytiilgicmdnllbaa.fnExactRefute
namespace Go.Proofs.Ytiilgicmdnllbaa
/-- The row, under a short name, for the claim. -/
theorem fnExactRefute_holds : Rows.FnExactRefuteSaid := fnExactRefute.proved
end Go.Proofs.Ytiilgicmdnllbaa
