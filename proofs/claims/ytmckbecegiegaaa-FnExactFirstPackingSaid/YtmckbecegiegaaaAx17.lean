/- For functions of the translation: a Lean function each, and that the call of the Go function comes to its answer. Written by this session's own program (myprint.py, over the kit's printer). -/
import Derived.Test.YtmckbecegiegaaaAx0
import Derived.Test.YtmckbecegiegaaaAx8
import Derived.Test.YtmckbecegiegaaaAx9
import Derived.Test.YtmckbecegiegaaaAx16
--compacted
namespace Go.Proofs.Ytmckbecegiegaaa.A
open Go.RowKit Go.Proofs.YtmckbecegiegaaaW.PrintWords Go.Proofs.YtmckbecegiegaaaW.PrintLast Go.Proofs.YtmckbecegiegaaaW.PrintMore
attribute [local go_sem] max2_int min2_int max_two min_two max_three min_three max_four min_four   -- for this text's walks alone
set_option linter.unusedVariables false
set_option linter.unusedSimpArgs false

/-! ### laws_FnExactFirstPacking: function 5 -/
mutual
def laws_FnExactFirstPacking.j0 : Nat → Int → Int → List (S37) → Int → Int → List (S37) → Int → Int → Bool → Int → List (S96) → Int → List (S75) → Option (Bool)
 | 0, _, _, _, _, _, _, _, _, _, _, _, _, _ => none
 | k + 1, x1, x2, x8, x9, x10, x12, x13, x14, x58, x401000, x401001, x416000, x416001 => if x58 = true then (some false) else ((laws_toTree.f k x401000 x401001).bind fun bt422 => ((laws_eqTree.f k x416000 x416001 bt422.1 bt422.2).bind fun t426 => (if t426 = true then ((laws_markTree.f k x416000 x416001 1).bind fun bt427 => (if bt427.1 < 0 then (laws_FnExactFirstPacking.j1 k x1 x2 x8 x9 x10 x12 true x401000 x401001) else ((laws_eqSpotS.f k x12 x8).bind fun t429 => (if t429 = true then (if x13 = x9 then (laws_FnExactFirstPacking.j1 k x1 x2 x8 x9 x10 x12 (x14 != x10) x401000 x401001) else (laws_FnExactFirstPacking.j1 k x1 x2 x8 x9 x10 x12 true x401000 x401001)) else (laws_FnExactFirstPacking.j1 k x1 x2 x8 x9 x10 x12 true x401000 x401001))))) else (some false))))
def laws_FnExactFirstPacking.j1 : Nat → Int → Int → List (S37) → Int → Int → List (S37) → Bool → Int → List (S96) → Option (Bool)
 | 0, _, _, _, _, _, _, _, _, _ => none
 | k + 1, x1, x2, x8, x9, x10, x12, x84, x401000, x401001 => if x84 = true then (some false) else ((laws_markSpotS.f k x12 1).bind fun bt430 => ((laws_heldSpotS.f k bt430.2 1).bind fun t432 => (if t432 < 0 then (some false) else (if t432 = bt430.1 then ((laws_toTree.f k x401000 x401001).bind fun bt433 => ((impl_FirstPacking.f k bt433.1 bt433.2 x1 x2).bind fun bt437 => ((laws_eqSpotS.f k bt437.1 x8).bind fun t442 => (if t442 = true then (if bt437.2.1 = x9 then (laws_FnExactFirstPacking.j2 k bt430.2 bt430.1 (bt437.2.2 != x10)) else (laws_FnExactFirstPacking.j2 k bt430.2 bt430.1 true)) else (laws_FnExactFirstPacking.j2 k bt430.2 bt430.1 true))))) else (some false)))))
def laws_FnExactFirstPacking.j2 : Nat → List (S37) → Int → Bool → Option (Bool)
 | 0, _, _, _ => none
 | k + 1, x12, x16, x118 => if x118 = true then (some false) else ((laws_heldSpotS.f k x12 1).bind fun t443 => (if t443 < 0 then (some false) else (if t443 = x16 then (some true) else (some false))))
end
def laws_FnExactFirstPacking.f (k : Nat) (a0_0 : Int) (l0_1 : List (S96)) (a1 : Int) (a2 : Int) : Option (Bool) := (laws_szTree.f a0_0 l0_1 1048576).bind fun t401 => (if t401 < 0 then (some true) else ((laws_toTree.f k a0_0 l0_1).bind fun bt402 => ((spec_FirstPacking.f k bt402.1 bt402.2 a1 a2).bind fun bt406 => ((laws_toTree.f k a0_0 l0_1).bind fun bt411 => ((impl_FirstPacking.f k bt411.1 bt411.2 a1 a2).bind fun bt416 => ((laws_eqSpotS.f k bt416.1 bt406.1).bind fun t421 => (if t421 = true then (if bt416.2.1 = bt406.2.1 then (laws_FnExactFirstPacking.j0 k a1 a2 bt406.1 bt406.2.1 bt406.2.2 bt416.1 bt416.2.1 bt416.2.2 (bt416.2.2 != bt406.2.2) a0_0 l0_1 bt411.1 bt411.2) else (laws_FnExactFirstPacking.j0 k a1 a2 bt406.1 bt406.2.1 bt406.2.2 bt416.1 bt416.2.1 bt416.2.2 true a0_0 l0_1 bt411.1 bt411.2)) else (laws_FnExactFirstPacking.j0 k a1 a2 bt406.1 bt406.2.1 bt406.2.2 bt416.1 bt416.2.1 bt416.2.2 true a0_0 l0_1 bt411.1 bt411.2))))))))
theorem laws_FnExactFirstPacking.mono_l : ∀ k, (∀ y0 y1 y2 y3 y4 y5 y6 y7 y8 y9 y10 y11 y12, LeO (laws_FnExactFirstPacking.j0 k y0 y1 y2 y3 y4 y5 y6 y7 y8 y9 y10 y11 y12) (laws_FnExactFirstPacking.j0 (k + 1) y0 y1 y2 y3 y4 y5 y6 y7 y8 y9 y10 y11 y12)) ∧ (∀ y0 y1 y2 y3 y4 y5 y6 y7 y8, LeO (laws_FnExactFirstPacking.j1 k y0 y1 y2 y3 y4 y5 y6 y7 y8) (laws_FnExactFirstPacking.j1 (k + 1) y0 y1 y2 y3 y4 y5 y6 y7 y8)) ∧ (∀ y0 y1 y2, LeO (laws_FnExactFirstPacking.j2 k y0 y1 y2) (laws_FnExactFirstPacking.j2 (k + 1) y0 y1 y2))
 | 0 => ⟨fun _ _ _ _ _ _ _ _ _ _ _ _ _ r h => by simp [laws_FnExactFirstPacking.j0] at h, fun _ _ _ _ _ _ _ _ _ r h => by simp [laws_FnExactFirstPacking.j1] at h, fun _ _ _ r h => by simp [laws_FnExactFirstPacking.j2] at h⟩
 | k + 1 => by
  obtain ⟨ih0, ih1, ih2⟩ := laws_FnExactFirstPacking.mono_l k
  refine ⟨?_, ?_, ?_⟩
  ·intro y0 y1 y2 y3 y4 y5 y6 y7 y8 y9 y10 y11 y12
   unfold laws_FnExactFirstPacking.j0
   repeat' first
   | (with_reducible exact ih0 _ _ _ _ _ _ _ _ _ _ _ _ _)
   | (with_reducible exact ih1 _ _ _ _ _ _ _ _ _)
   | (with_reducible exact ih2 _ _ _)
   | (with_reducible exact impl_FirstPacking.mono _ _ _ _ _)
   | (with_reducible exact laws_eqSpotS.mono _ _ _)
   | (with_reducible exact laws_eqTree.mono _ _ _ _ _)
   | (with_reducible exact laws_heldSpotS.mono _ _ _)
   | (with_reducible exact laws_markSpotS.mono _ _ _)
   | (with_reducible exact laws_markTree.mono _ _ _ _)
   | (with_reducible exact laws_toTree.mono _ _ _)
   | (with_reducible exact spec_FirstPacking.mono _ _ _ _ _)
   | (with_reducible exact LeO.refl _)
   | (with_reducible exact LeO.none _)
   | (with_reducible refine LeO.ite ?_ ?_)
   | (with_reducible refine LeO.bind ?_ (fun _ => ?_))
   | exact impl_FirstPacking.mono _ _ _ _ _
   | exact laws_eqSpotS.mono _ _ _
   | exact laws_eqTree.mono _ _ _ _ _
   | exact laws_heldSpotS.mono _ _ _
   | exact laws_markSpotS.mono _ _ _
   | exact laws_markTree.mono _ _ _ _
   | exact laws_toTree.mono _ _ _
   | exact spec_FirstPacking.mono _ _ _ _ _
   | exact LeO.none _
   | refine LeO.ite ?_ ?_
   | refine LeO.bind ?_ (fun _ => ?_)
  ·intro y0 y1 y2 y3 y4 y5 y6 y7 y8
   unfold laws_FnExactFirstPacking.j1
   repeat' first
   | (with_reducible exact ih0 _ _ _ _ _ _ _ _ _ _ _ _ _)
   | (with_reducible exact ih1 _ _ _ _ _ _ _ _ _)
   | (with_reducible exact ih2 _ _ _)
   | (with_reducible exact impl_FirstPacking.mono _ _ _ _ _)
   | (with_reducible exact laws_eqSpotS.mono _ _ _)
   | (with_reducible exact laws_eqTree.mono _ _ _ _ _)
   | (with_reducible exact laws_heldSpotS.mono _ _ _)
   | (with_reducible exact laws_markSpotS.mono _ _ _)
   | (with_reducible exact laws_markTree.mono _ _ _ _)
   | (with_reducible exact laws_toTree.mono _ _ _)
   | (with_reducible exact spec_FirstPacking.mono _ _ _ _ _)
   | (with_reducible exact LeO.refl _)
   | (with_reducible exact LeO.none _)
   | (with_reducible refine LeO.ite ?_ ?_)
   | (with_reducible refine LeO.bind ?_ (fun _ => ?_))
   | exact impl_FirstPacking.mono _ _ _ _ _
   | exact laws_eqSpotS.mono _ _ _
   | exact laws_eqTree.mono _ _ _ _ _
   | exact laws_heldSpotS.mono _ _ _
   | exact laws_markSpotS.mono _ _ _
   | exact laws_markTree.mono _ _ _ _
   | exact laws_toTree.mono _ _ _
   | exact spec_FirstPacking.mono _ _ _ _ _
   | exact LeO.none _
   | refine LeO.ite ?_ ?_
   | refine LeO.bind ?_ (fun _ => ?_)
  ·intro y0 y1 y2
   unfold laws_FnExactFirstPacking.j2
   repeat' first
   | (with_reducible exact ih0 _ _ _ _ _ _ _ _ _ _ _ _ _)
   | (with_reducible exact ih1 _ _ _ _ _ _ _ _ _)
   | (with_reducible exact ih2 _ _ _)
   | (with_reducible exact impl_FirstPacking.mono _ _ _ _ _)
   | (with_reducible exact laws_eqSpotS.mono _ _ _)
   | (with_reducible exact laws_eqTree.mono _ _ _ _ _)
   | (with_reducible exact laws_heldSpotS.mono _ _ _)
   | (with_reducible exact laws_markSpotS.mono _ _ _)
   | (with_reducible exact laws_markTree.mono _ _ _ _)
   | (with_reducible exact laws_toTree.mono _ _ _)
   | (with_reducible exact spec_FirstPacking.mono _ _ _ _ _)
   | (with_reducible exact LeO.refl _)
   | (with_reducible exact LeO.none _)
   | (with_reducible refine LeO.ite ?_ ?_)
   | (with_reducible refine LeO.bind ?_ (fun _ => ?_))
   | exact impl_FirstPacking.mono _ _ _ _ _
   | exact laws_eqSpotS.mono _ _ _
   | exact laws_eqTree.mono _ _ _ _ _
   | exact laws_heldSpotS.mono _ _ _
   | exact laws_markSpotS.mono _ _ _
   | exact laws_markTree.mono _ _ _ _
   | exact laws_toTree.mono _ _ _
   | exact spec_FirstPacking.mono _ _ _ _ _
   | exact LeO.none _
   | refine LeO.ite ?_ ?_
   | refine LeO.bind ?_ (fun _ => ?_)
theorem laws_FnExactFirstPacking.mono : ∀ a0 a1 a2 a3 k, LeO (laws_FnExactFirstPacking.f k a0 a1 a2 a3) (laws_FnExactFirstPacking.f (k + 1) a0 a1 a2 a3) := by
 intro a0 a1 a2 a3 k
 obtain ⟨ih0, ih1, ih2⟩ := laws_FnExactFirstPacking.mono_l k
 unfold laws_FnExactFirstPacking.f
 repeat' first
   | (with_reducible exact ih0 _ _ _ _ _ _ _ _ _ _ _ _ _)
   | (with_reducible exact ih1 _ _ _ _ _ _ _ _ _)
   | (with_reducible exact ih2 _ _ _)
   | (with_reducible exact impl_FirstPacking.mono _ _ _ _ _)
   | (with_reducible exact laws_eqSpotS.mono _ _ _)
   | (with_reducible exact laws_eqTree.mono _ _ _ _ _)
   | (with_reducible exact laws_heldSpotS.mono _ _ _)
   | (with_reducible exact laws_markSpotS.mono _ _ _)
   | (with_reducible exact laws_markTree.mono _ _ _ _)
   | (with_reducible exact laws_toTree.mono _ _ _)
   | (with_reducible exact spec_FirstPacking.mono _ _ _ _ _)
   | (with_reducible exact LeO.refl _)
   | (with_reducible exact LeO.none _)
   | (with_reducible refine LeO.ite ?_ ?_)
   | (with_reducible refine LeO.bind ?_ (fun _ => ?_))
   | exact impl_FirstPacking.mono _ _ _ _ _
   | exact laws_eqSpotS.mono _ _ _
   | exact laws_eqTree.mono _ _ _ _ _
   | exact laws_heldSpotS.mono _ _ _
   | exact laws_markSpotS.mono _ _ _
   | exact laws_markTree.mono _ _ _ _
   | exact laws_toTree.mono _ _ _
   | exact spec_FirstPacking.mono _ _ _ _ _
   | exact LeO.none _
   | refine LeO.ite ?_ ?_
   | refine LeO.bind ?_ (fun _ => ?_)
set_option maxHeartbeats 8000000 in
set_option maxRecDepth 100000 in
theorem laws_FnExactFirstPacking.calls (k : Nat) (a0_0 : Int) (A0_1 : Option Addr) (c0_1 : Nat) (l0_1 : List (S96)) (a1 : Int) (a2 : Int) (r : Bool) (w : World) (hr0_1 : Kd.C k96 w A0_1 l0_1.length l0_1) (hc0_1 : l0_1.length ≤ c0_1) (h : laws_FnExactFirstPacking.f k a0_0 l0_1 a1 a2 = some r) :
  Calls Try.prog 5 #[.agg #[.int .i64 a0_0, .slice A0_1 l0_1.length c0_1], .int .i64 a1, .int .i64 a2] w fun e w' => e = .returned (.bool r) ∧ Below w.heap.size w w' := by
 have hu42 := Try.underlying42
 have hu26 := Try.underlying26
 have HR0_1 := Aside0.mk hr0_1
 have HC0_1 := Aside0.mk hc0_1
 clear hr0_1 hc0_1
 have HB := Aside0.mk (Below.refl w.heap.size w)
 have H : ((laws_szTree.f a0_0 l0_1 1048576).bind fun t401 => (if t401 < 0 then (some true) else ((laws_toTree.f k a0_0 l0_1).bind fun bt402 => ((spec_FirstPacking.f k bt402.1 bt402.2 a1 a2).bind fun bt406 => ((laws_toTree.f k a0_0 l0_1).bind fun bt411 => ((impl_FirstPacking.f k bt411.1 bt411.2 a1 a2).bind fun bt416 => ((laws_eqSpotS.f k bt416.1 bt406.1).bind fun t421 => (if t421 = true then (if bt416.2.1 = bt406.2.1 then (laws_FnExactFirstPacking.j0 k a1 a2 bt406.1 bt406.2.1 bt406.2.2 bt416.1 bt416.2.1 bt416.2.2 (bt416.2.2 != bt406.2.2) a0_0 l0_1 bt411.1 bt411.2) else (laws_FnExactFirstPacking.j0 k a1 a2 bt406.1 bt406.2.1 bt406.2.2 bt416.1 bt416.2.1 bt416.2.2 true a0_0 l0_1 bt411.1 bt411.2)) else (laws_FnExactFirstPacking.j0 k a1 a2 bt406.1 bt406.2.1 bt406.2.2 bt416.1 bt416.2.1 bt416.2.2 true a0_0 l0_1 bt411.1 bt411.2))))))))) = some r := h
 clear h
 replace H := Option.bind_eq_some_iff.mp H
 obtain ⟨t401, A40, H⟩ := H
 replace H : (if t401 < 0 then (some true) else ((laws_toTree.f k a0_0 l0_1).bind fun bt402 => ((spec_FirstPacking.f k bt402.1 bt402.2 a1 a2).bind fun bt406 => ((laws_toTree.f k a0_0 l0_1).bind fun bt411 => ((impl_FirstPacking.f k bt411.1 bt411.2 a1 a2).bind fun bt416 => ((laws_eqSpotS.f k bt416.1 bt406.1).bind fun t421 => (if t421 = true then (if bt416.2.1 = bt406.2.1 then (laws_FnExactFirstPacking.j0 k a1 a2 bt406.1 bt406.2.1 bt406.2.2 bt416.1 bt416.2.1 bt416.2.2 (bt416.2.2 != bt406.2.2) a0_0 l0_1 bt411.1 bt411.2) else (laws_FnExactFirstPacking.j0 k a1 a2 bt406.1 bt406.2.1 bt406.2.2 bt416.1 bt416.2.1 bt416.2.2 true a0_0 l0_1 bt411.1 bt411.2)) else (laws_FnExactFirstPacking.j0 k a1 a2 bt406.1 bt406.2.1 bt406.2.2 bt416.1 bt416.2.1 bt416.2.2 true a0_0 l0_1 bt411.1 bt411.2)))))))) = some r := H
 have A4 := Aside0.mk A40
 clear A40
 by_cases c5 : t401 < 0
 ·rw [if_pos c5] at H
  have c5b0 := decide_eq_true c5
  clear c5
  obtain rfl := Option.some.inj H
  go_enter Try.func5, Try.ntmps5
  go_wp2_with (first | ((with_reducible refine gate_dst (N := 3) rfl ?_); refine box_event ?hg (N := 3) ?hd (cs := #[.int .i64 a0_0, .slice A0_1 l0_1.length c0_1]) (t := 42) ?hr ?_; (case hd => rfl); (case hg => rfl); (case hr => first | (go_simp; done) | (go_simp; rfl)); intro gb400 hg w6 hbox hb; have n0_ := Aside0.mk (below_step (bl0_ HB.out) hb); have n1_ := Aside0.mk (hbox); have n2_ := Aside0.mk ((by rw [hg]; exact (below_size (bl0_ HB.out)) : w.heap.size ≤ gb400)); have n3_ := Aside0.mk ((by rw [hg]; exact (below_size (bl0_ HB.out)) : w.heap.size ≤ gb400)); clear HB; have HB := n0_; have BK400 := n1_; have GW400 := n2_; have GE400 := n3_; clear n0_ n1_ n2_ n3_; clear hb hbox hg; obtain ⟨hcz7_0, hcz7_1, hfz7_0, hfz7_1⟩ := cz2_ BK400.out) | ((with_reducible refine gate_callee (f := 13) rfl ?_); refine goesL_ (some 23) rfl rfl Try.func13 (by kernel_rfl) rfl #[.agg #[.int .i64 a0_0, .slice A0_1 l0_1.length c0_1], .int .i64 1048576] rfl mp_ ?_; (with_reducible refine (laws_szTree.calls a0_0 _ _ l0_1 1048576 t401 _ ?side1 ?side2 A4.out).mono ?_); (case side1 => exact ca_ (Kd.C_below HR0_1.out HB.out)); (case side2 => exact HC0_1.out); rintro e w8 ⟨rfl, hb⟩; refine ⟨_, rfl, ?_⟩; have n0_ := Aside0.mk (blk_below (g := gb400) (o := .cells #[.int .i64 a0_0, .slice A0_1 l0_1.length c0_1] 42 (0, 0)) (bk_ BK400.out) hb); have n1_ := Aside0.mk (below_step (bl1_ HB.out GE400.out) hb); clear BK400; clear HB; have BK400 := n0_; have HB := n1_; clear n0_ n1_; (try clear hb); (try clear hb2); (try clear hk); (try clear hi)))
  go_ret
  exact ⟨re_, bl1_ HB.out GE400.out⟩
 ·rw [if_neg c5] at H
  have c5b0 := decide_eq_false c5
  clear c5
  replace H := Option.bind_eq_some_iff.mp H
  obtain ⟨⟨t402, t403⟩, A90, H⟩ := H
  replace H : ((spec_FirstPacking.f k t402 t403 a1 a2).bind fun bt406 => ((laws_toTree.f k a0_0 l0_1).bind fun bt411 => ((impl_FirstPacking.f k bt411.1 bt411.2 a1 a2).bind fun bt416 => ((laws_eqSpotS.f k bt416.1 bt406.1).bind fun t421 => (if t421 = true then (if bt416.2.1 = bt406.2.1 then (laws_FnExactFirstPacking.j0 k a1 a2 bt406.1 bt406.2.1 bt406.2.2 bt416.1 bt416.2.1 bt416.2.2 (bt416.2.2 != bt406.2.2) a0_0 l0_1 bt411.1 bt411.2) else (laws_FnExactFirstPacking.j0 k a1 a2 bt406.1 bt406.2.1 bt406.2.2 bt416.1 bt416.2.1 bt416.2.2 true a0_0 l0_1 bt411.1 bt411.2)) else (laws_FnExactFirstPacking.j0 k a1 a2 bt406.1 bt406.2.1 bt406.2.2 bt416.1 bt416.2.1 bt416.2.2 true a0_0 l0_1 bt411.1 bt411.2)))))) = some r := H
  have A9 := Aside0.mk A90
  clear A90
  replace H := Option.bind_eq_some_iff.mp H
  obtain ⟨⟨t406, t409, t410⟩, A100, H⟩ := H
  replace H : ((laws_toTree.f k a0_0 l0_1).bind fun bt411 => ((impl_FirstPacking.f k bt411.1 bt411.2 a1 a2).bind fun bt416 => ((laws_eqSpotS.f k bt416.1 t406).bind fun t421 => (if t421 = true then (if bt416.2.1 = t409 then (laws_FnExactFirstPacking.j0 k a1 a2 t406 t409 t410 bt416.1 bt416.2.1 bt416.2.2 (bt416.2.2 != t410) a0_0 l0_1 bt411.1 bt411.2) else (laws_FnExactFirstPacking.j0 k a1 a2 t406 t409 t410 bt416.1 bt416.2.1 bt416.2.2 true a0_0 l0_1 bt411.1 bt411.2)) else (laws_FnExactFirstPacking.j0 k a1 a2 t406 t409 t410 bt416.1 bt416.2.1 bt416.2.2 true a0_0 l0_1 bt411.1 bt411.2))))) = some r := H
  have A10 := Aside0.mk A100
  clear A100
  replace H := Option.bind_eq_some_iff.mp H
  obtain ⟨⟨t411, t412⟩, A110, H⟩ := H
  replace H : ((impl_FirstPacking.f k t411 t412 a1 a2).bind fun bt416 => ((laws_eqSpotS.f k bt416.1 t406).bind fun t421 => (if t421 = true then (if bt416.2.1 = t409 then (laws_FnExactFirstPacking.j0 k a1 a2 t406 t409 t410 bt416.1 bt416.2.1 bt416.2.2 (bt416.2.2 != t410) a0_0 l0_1 t411 t412) else (laws_FnExactFirstPacking.j0 k a1 a2 t406 t409 t410 bt416.1 bt416.2.1 bt416.2.2 true a0_0 l0_1 t411 t412)) else (laws_FnExactFirstPacking.j0 k a1 a2 t406 t409 t410 bt416.1 bt416.2.1 bt416.2.2 true a0_0 l0_1 t411 t412)))) = some r := H
  have A11 := Aside0.mk A110
  clear A110
  replace H := Option.bind_eq_some_iff.mp H
  obtain ⟨⟨t416, t419, t420⟩, A120, H⟩ := H
  replace H : ((laws_eqSpotS.f k t416 t406).bind fun t421 => (if t421 = true then (if t419 = t409 then (laws_FnExactFirstPacking.j0 k a1 a2 t406 t409 t410 t416 t419 t420 (t420 != t410) a0_0 l0_1 t411 t412) else (laws_FnExactFirstPacking.j0 k a1 a2 t406 t409 t410 t416 t419 t420 true a0_0 l0_1 t411 t412)) else (laws_FnExactFirstPacking.j0 k a1 a2 t406 t409 t410 t416 t419 t420 true a0_0 l0_1 t411 t412))) = some r := H
  have A12 := Aside0.mk A120
  clear A120
  have HC13 := Aside0.mk H
  clear H
  go_enter Try.func5, Try.ntmps5
  go_upto_region 8 with (first | ((with_reducible refine gate_dst (N := 3) rfl ?_); refine box_event ?hg (N := 3) ?hd (cs := #[.int .i64 a0_0, .slice A0_1 l0_1.length c0_1]) (t := 42) ?hr ?_; (case hd => rfl); (case hg => rfl); (case hr => first | (go_simp; done) | (go_simp; rfl)); intro gb400 hg w14 hbox hb; have n0_ := Aside0.mk (below_step (bl0_ HB.out) hb); have n1_ := Aside0.mk (hbox); have n2_ := Aside0.mk ((by rw [hg]; exact (below_size (bl0_ HB.out)) : w.heap.size ≤ gb400)); have n3_ := Aside0.mk ((by rw [hg]; exact (below_size (bl0_ HB.out)) : w.heap.size ≤ gb400)); clear HB; have HB := n0_; have BK400 := n1_; have GW400 := n2_; have GE400 := n3_; clear n0_ n1_ n2_ n3_; clear hb hbox hg; obtain ⟨hcz15_0, hcz15_1, hfz15_0, hfz15_1⟩ := cz2_ BK400.out) | ((with_reducible refine gate_callee (f := 13) rfl ?_); refine goesL_ (some 23) rfl rfl Try.func13 (by kernel_rfl) rfl #[.agg #[.int .i64 a0_0, .slice A0_1 l0_1.length c0_1], .int .i64 1048576] rfl mp_ ?_; (with_reducible refine (laws_szTree.calls a0_0 _ _ l0_1 1048576 t401 _ ?side1 ?side2 A4.out).mono ?_); (case side1 => exact ca_ (Kd.C_below HR0_1.out HB.out)); (case side2 => exact HC0_1.out); rintro e w16 ⟨rfl, hb⟩; refine ⟨_, rfl, ?_⟩; have n0_ := Aside0.mk (blk_below (g := gb400) (o := .cells #[.int .i64 a0_0, .slice A0_1 l0_1.length c0_1] 42 (0, 0)) (bk_ BK400.out) hb); have n1_ := Aside0.mk (below_step (bl1_ HB.out GE400.out) hb); clear BK400; clear HB; have BK400 := n0_; have HB := n1_; clear n0_ n1_; (try clear hb); (try clear hb2); (try clear hk); (try clear hi); obtain ⟨hcz17_0, hcz17_1, hfz17_0, hfz17_1⟩ := cz2_ BK400.out) | ((with_reducible refine gate_callee (f := 15) rfl ?_); refine goesL_ (some 28) rfl rfl Try.func15 (by kernel_rfl) rfl #[.agg #[.int .i64 a0_0, .slice A0_1 l0_1.length c0_1]] rfl mp_ ?_; (with_reducible refine (laws_toTree.calls k a0_0 _ _ l0_1 t402 t403 _ ?side1 ?side2 A9.out).mono ?_); (case side1 => exact ca_ (Kd.C_below HR0_1.out HB.out)); (case side2 => exact HC0_1.out); rintro e w18 ⟨v404, rfl, ho0, hb⟩; refine ⟨_, rfl, ?_⟩; have n0_ := Aside0.mk (Kd.R_lower ho0 (below_size (bl1_ HB.out GE400.out))); have n1_ := Aside0.mk (blk_below (g := gb400) (o := .cells #[.int .i64 a0_0, .slice A0_1 l0_1.length c0_1] 42 (0, 0)) (bk_ BK400.out) hb); have n2_ := Aside0.mk (below_step (bl1_ HB.out GE400.out) hb); clear BK400; clear HB; have HO405 := n0_; have BK400 := n1_; have HB := n2_; clear n0_ n1_ n2_; (try clear hb); (try clear hb2); (try clear hk); (try clear hi); (try clear ho0); obtain ⟨Ao19, co19, eo19⟩ := Kd.R_slice HO405.out; subst eo19) | ((with_reducible refine gate_callee (f := 17) rfl ?_); refine goesL_ (some 31) rfl rfl Try.func17 (by kernel_rfl) rfl #[.agg #[.int .i64 t402, .slice Ao19 t403.length co19], .int .i64 a1, .int .i64 a2] rfl mp_ ?_; (with_reducible refine (spec_FirstPacking.calls k t402 _ _ t403 a1 a2 t406 t409 t410 _ ?side1 ?side2 A10.out).mono ?_); (case side1 => exact ca_ (Kd.R_reads' HO405.out).2.2); (case side2 => exact (Kd.R_reads' HO405.out).2.1); rintro e w20 ⟨v407, rfl, ho0, hb⟩; refine ⟨_, rfl, ?_⟩; have n0_ := Aside0.mk (Kd.R_below (ra_ HO405.out) hb); have n1_ := Aside0.mk (Kd.R_lower ho0 (below_size (bl1_ HB.out GE400.out))); have n2_ := Aside0.mk (blk_below (g := gb400) (o := .cells #[.int .i64 a0_0, .slice A0_1 l0_1.length c0_1] 42 (0, 0)) (bk_ BK400.out) hb); have n3_ := Aside0.mk (below_step (bl1_ HB.out GE400.out) hb); clear HO405; clear BK400; clear HB; have HO405 := n0_; have HO408 := n1_; have BK400 := n2_; have HB := n3_; clear n0_ n1_ n2_ n3_; (try clear hb); (try clear hb2); (try clear hk); (try clear hi); (try clear ho0); obtain ⟨hcz21_0, hcz21_1, hfz21_0, hfz21_1⟩ := cz2_ BK400.out) | ((with_reducible refine gate_callee (f := 15) rfl ?_); refine goesL_ (some 36) rfl rfl Try.func15 (by kernel_rfl) rfl #[.agg #[.int .i64 a0_0, .slice A0_1 l0_1.length c0_1]] rfl mp_ ?_; (with_reducible refine (laws_toTree.calls k a0_0 _ _ l0_1 t411 t412 _ ?side1 ?side2 A11.out).mono ?_); (case side1 => exact ca_ (Kd.C_below HR0_1.out HB.out)); (case side2 => exact HC0_1.out); rintro e w22 ⟨v413, rfl, ho0, hb⟩; refine ⟨_, rfl, ?_⟩; have n0_ := Aside0.mk (Kd.R_elder' (ra_ HO405.out) (Kd.R_base ho0) hb); have n1_ := Aside0.mk (Kd.R_below (ra_ HO408.out) hb); have n2_ := Aside0.mk (Kd.R_lower (Kd.R_new' ho0 (Kd.R_lt (ra_ HO405.out))) (below_size (bl1_ HB.out GE400.out))); have n3_ := Aside0.mk (blk_below (g := gb400) (o := .cells #[.int .i64 a0_0, .slice A0_1 l0_1.length c0_1] 42 (0, 0)) (bk_ BK400.out) hb); have n4_ := Aside0.mk (below_step (bl1_ HB.out GE400.out) hb); clear HO405; clear HO408; clear BK400; clear HB; have HO405 := n0_; have HO408 := n1_; have HO414 := n2_; have BK400 := n3_; have HB := n4_; clear n0_ n1_ n2_ n3_ n4_; (try clear hb); (try clear hb2); (try clear hk); (try clear hi); (try clear ho0)) | ((with_reducible refine gate_dst (N := 11) rfl ?_); refine box_event ?hg (N := 11) ?hd (cs := #[.int .i64 0, .slice none 0 0]) (t := 26) ?hr ?_; (case hd => rfl); (case hg => rfl); (case hr => first | (go_simp; done) | (go_simp; rfl)); intro gb415 hg w23 hbox hb; have n0_ := Aside0.mk (Kd.R_below (ra_ HO405.out) hb); have n1_ := Aside0.mk (Kd.R_below (ra_ HO408.out) hb); have n2_ := Aside0.mk (Kd.R_below (ra_ HO414.out) hb); have n3_ := Aside0.mk (blk_below (g := gb400) (o := .cells #[.int .i64 a0_0, .slice A0_1 l0_1.length c0_1] 42 (0, 0)) (bk_ BK400.out) hb); have n4_ := Aside0.mk (below_step (bl1_ HB.out GE400.out) hb); have n5_ := Aside0.mk (hbox); have n6_ := Aside0.mk ((by rw [hg]; exact (below_size (bl1_ HB.out GE400.out)) : w.heap.size ≤ gb415)); have n7_ := Aside0.mk ((by rw [hg]; exact (below_size (bl1_ HB.out GE400.out)) : w.heap.size ≤ gb415)); have n8_ := Aside0.mk ((by rw [hg]; exact Nat.ne_of_lt (blk_lt (bk_ BK400.out)) : gb400 ≠ gb415)); have n9_ := Aside0.mk ((by rw [hg]; exact Nat.ne_of_gt (blk_lt (bk_ BK400.out)) : gb415 ≠ gb400)); clear HO405; clear HO408; clear HO414; clear BK400; clear HB; have HO405 := n0_; have HO408 := n1_; have HO414 := n2_; have BK400 := n3_; have HB := n4_; have BK415 := n5_; have GW415 := n6_; have GE415 := n7_; have NB400_415 := n8_; have NB415_400 := n9_; clear n0_ n1_ n2_ n3_ n4_ n5_ n6_ n7_ n8_ n9_; clear hb hbox hg; have hnb24 := NB415_400.out; have hnc24 := NB400_415.out; obtain ⟨hcz25_0, hcz25_1, hfz25_0, hfz25_1⟩ := cz2_ BK415.out; obtain ⟨Ao26, co26, eo26⟩ := Kd.R_slice HO414.out; subst eo26) | ((with_reducible refine gate_callee (f := 9) rfl ?_); refine goesL_ (some 41) rfl rfl Try.func9 (by kernel_rfl) rfl #[.agg #[.int .i64 t411, .slice Ao26 t412.length co26], .int .i64 a1, .int .i64 a2] rfl mp_ ?_; (with_reducible refine (impl_FirstPacking.calls k t411 _ _ t412 a1 a2 t416 t419 t420 _ ?side1 ?side2 A12.out).mono ?_); (case side1 => refine (Kd.R_reads' (e := 75) (base := w.heap.size) (ok := fun k_ => (True ∧ some k_ ≠ (.slice Ao19 t403.length co19 : Value).ownBlock)) (n := t412.length) (c := co26) ?_).2.2; exact (by (with_reducible repeat (first | apply Kd.R_alloc | apply Kd.R_drewN | apply Kd.R_drew)); exact (Kd.R_mono (Kd.R_far (p := ⟨gb415, 1, none⟩) (Kd.R_far (p := ⟨gb415, 0, none⟩) (Kd.R_types HO414.out BK415.out (by decide)) (fun _ hk => hk.2) (.int .i64 t411)) (fun _ hk => hk.2) (.slice Ao26 t412.length co26)) (fun _ h_ => h_.1)))); (case side2 => exact (Kd.R_reads' HO414.out).2.1); rintro e w27 ⟨v417, rfl, ho0, hb⟩; refine ⟨_, rfl, ?_⟩; have n0_ := Aside0.mk (Kd.R_below (by (with_reducible repeat (first | apply Kd.R_alloc | apply Kd.R_drewN | apply Kd.R_drew)); exact (Kd.R_mono (Kd.R_far (p := ⟨gb415, 1, none⟩) (Kd.R_far (p := ⟨gb415, 0, none⟩) (Kd.R_types HO405.out BK415.out (by decide)) (fun _ hk => hk.2) (.int .i64 t411)) (fun _ hk => hk.2) (.slice Ao26 t412.length co26)) (fun _ h_ => h_.1))) hb); have n1_ := Aside0.mk (Kd.R_elder' (by (with_reducible repeat (first | apply Kd.R_alloc | apply Kd.R_drewN | apply Kd.R_drew)); exact (Kd.R_mono (Kd.R_far (p := ⟨gb415, 1, none⟩) (Kd.R_far (p := ⟨gb415, 0, none⟩) (Kd.R_types HO408.out BK415.out (by decide)) (fun _ hk => hk.2) (.int .i64 t411)) (fun _ hk => hk.2) (.slice Ao26 t412.length co26)) (fun _ h_ => h_.1))) (Kd.R_base ho0) hb); have n2_ := Aside0.mk (Kd.R_below (by (with_reducible repeat (first | apply Kd.R_alloc | apply Kd.R_drewN | apply Kd.R_drew)); exact (Kd.R_mono (Kd.R_far (p := ⟨gb415, 1, none⟩) (Kd.R_far (p := ⟨gb415, 0, none⟩) (Kd.R_types HO414.out BK415.out (by decide)) (fun _ hk => hk.2) (.int .i64 t411)) (fun _ hk => hk.2) (.slice Ao26 t412.length co26)) (fun _ h_ => h_.1))) hb); have n3_ := Aside0.mk (Kd.R_lower (Kd.R_new' ho0 (Kd.R_lt (by (with_reducible repeat (first | apply Kd.R_alloc | apply Kd.R_drewN | apply Kd.R_drew)); exact (Kd.R_mono (Kd.R_far (p := ⟨gb415, 1, none⟩) (Kd.R_far (p := ⟨gb415, 0, none⟩) (Kd.R_types HO408.out BK415.out (by decide)) (fun _ hk => hk.2) (.int .i64 t411)) (fun _ hk => hk.2) (.slice Ao26 t412.length co26)) (fun _ h_ => h_.1))))) (below_size (bl2_ HB.out GE400.out GE415.out))); have n4_ := Aside0.mk (blk_below (g := gb400) (o := .cells #[.int .i64 a0_0, .slice A0_1 l0_1.length c0_1] 42 (0, 0)) (by (with_reducible repeat (first | refine blk_drewN ?_ _ | refine blk_drew ?_ | refine blk_alloc ?_ _)); refine blk_far ?_ NB400_415.out _; (with_reducible repeat (first | refine blk_drewN ?_ _ | refine blk_drew ?_ | refine blk_alloc ?_ _)); refine blk_far ?_ NB400_415.out _; (with_reducible repeat (first | refine blk_drewN ?_ _ | refine blk_drew ?_ | refine blk_alloc ?_ _)); exact BK400.out) hb); have n5_ := Aside0.mk (blk_below (g := gb415) (o := .cells #[.int .i64 t411, .slice Ao26 t412.length co26] 26 (0, 0)) (by (with_reducible repeat (first | refine blk_drewN ?_ _ | refine blk_drew ?_ | refine blk_alloc ?_ _)); refine blk_put (cs := #[.int .i64 t411, .slice none 0 0]) ?_ 1 _ rfl; (with_reducible repeat (first | refine blk_drewN ?_ _ | refine blk_drew ?_ | refine blk_alloc ?_ _)); refine blk_put (cs := #[.int .i64 0, .slice none 0 0]) ?_ 0 _ rfl; (with_reducible repeat (first | refine blk_drewN ?_ _ | refine blk_drew ?_ | refine blk_alloc ?_ _)); exact BK415.out) hb); have n6_ := Aside0.mk (below_step (bl2_ HB.out GE400.out GE415.out) hb); clear HO405; clear HO408; clear HO414; clear BK400; clear BK415; clear HB; have HO405 := n0_; have HO408 := n1_; have HO414 := n2_; have HO418 := n3_; have BK400 := n4_; have BK415 := n5_; have HB := n6_; clear n0_ n1_ n2_ n3_ n4_ n5_ n6_; (try clear hb); (try clear hb2); (try clear hk); (try clear hi); (try clear ho0)))
  (try simp only [Act.put, List.setIfInBounds_toArray, List.set_cons_zero, List.set_cons_succ])
  go_cut [58] (fun v58 wc => ∃ (kq : Nat) (x58_12 : Bool), v58 = .bool x58_12 ∧ Aside0 (laws_FnExactFirstPacking.j0 kq a1 a2 t406 t409 t410 t416 t419 t420 x58_12 a0_0 l0_1 t411 t412 = some r) ∧ Aside0 (kq ≤ k) ∧ Aside0 (Kd.R k37 37 wc w.heap.size (fun k_ => some k_ ≠ (v417 : Value).ownBlock) v407 t406) ∧ Aside0 (Kd.R k37 37 wc w.heap.size (fun k_ => some k_ ≠ (v407 : Value).ownBlock) v417 t416) ∧ Aside0 (Kd.R k75 75 wc w.heap.size (fun _ => True) (.slice Ao26 t412.length co26) t412) ∧ Aside0 (wc.heap[gb400]? = some (.cells #[.int .i64 a0_0, (.slice A0_1 l0_1.length c0_1)] 42 (0, 0))) ∧ Aside0 (wc.heap[gb415]? = some (.cells #[.int .i64 t411, (.slice Ao26 t412.length co26)] 26 (0, 0))) ∧ Aside0 (Below w.heap.size w wc))
  case first =>
   have H := HC13.out
   clear HC13
   replace H := Option.bind_eq_some_iff.mp H
   obtain ⟨t421, A280, H⟩ := H
   replace H : (if t421 = true then (if t419 = t409 then (laws_FnExactFirstPacking.j0 k a1 a2 t406 t409 t410 t416 t419 t420 (t420 != t410) a0_0 l0_1 t411 t412) else (laws_FnExactFirstPacking.j0 k a1 a2 t406 t409 t410 t416 t419 t420 true a0_0 l0_1 t411 t412)) else (laws_FnExactFirstPacking.j0 k a1 a2 t406 t409 t410 t416 t419 t420 true a0_0 l0_1 t411 t412)) = some r := H
   have A28 := Aside0.mk A280
   clear A280
   by_cases c29 : t421 = true
   ·subst c29
    have H1 : (if t419 = t409 then (laws_FnExactFirstPacking.j0 k a1 a2 t406 t409 t410 t416 t419 t420 (t420 != t410) a0_0 l0_1 t411 t412) else (laws_FnExactFirstPacking.j0 k a1 a2 t406 t409 t410 t416 t419 t420 true a0_0 l0_1 t411 t412)) = some r := by rw [if_pos rfl] at H; exact H
    clear H
    have H := H1
    clear H1
    by_cases c30 : t419 = t409
    ·rw [if_pos c30] at H
     have c30b0 : (t419 == t409) = true := beq_iff_eq.mpr c30
     have c30b1 : (t419 != t409) = false := bne_eq_false_iff_eq.mpr c30
     clear c30
     (first | rw [c30b0] | (simp only [i64_w, i32_w]; rw [c30b0]) | skip)
     have H' := Aside0.mk H
     clear H
     obtain ⟨Ao31, co31, eo31⟩ := Kd.R_slice HO418.out
     subst eo31
     obtain ⟨Ao32, co32, eo32⟩ := Kd.R_slice HO408.out
     subst eo32
     go_wp2_with (first | ((with_reducible refine gate_callee (f := 18) rfl ?_); refine goesL_ (some 47) rfl rfl Try.func18 (by kernel_rfl) rfl #[.slice Ao31 t416.length co31, .slice Ao32 t406.length co32] rfl mp_ ?_; (with_reducible refine (laws_eqSpotS.calls k _ _ t416 _ _ t406 true _ ?side1 ?side2 ?side3 ?side4 A28.out).mono ?_); (case side1 => exact ca_ (Kd.R_reads' HO418.out).2.2); (case side2 => exact (Kd.R_reads' HO418.out).2.1); (case side3 => exact ca_ (Kd.R_reads' HO408.out).2.2); (case side4 => exact (Kd.R_reads' HO408.out).2.1); rintro e w33 ⟨rfl, hb⟩; refine ⟨_, rfl, ?_⟩; have n0_ := Aside0.mk (Kd.R_below (ra_ HO405.out) hb); have n1_ := Aside0.mk (Kd.R_below (ra_ HO408.out) hb); have n2_ := Aside0.mk (Kd.R_below (ra_ HO414.out) hb); have n3_ := Aside0.mk (Kd.R_below (ra_ HO418.out) hb); have n4_ := Aside0.mk (blk_below (g := gb400) (o := .cells #[.int .i64 a0_0, .slice A0_1 l0_1.length c0_1] 42 (0, 0)) (bk_ BK400.out) hb); have n5_ := Aside0.mk (blk_below (g := gb415) (o := .cells #[.int .i64 t411, .slice Ao26 t412.length co26] 26 (0, 0)) (bk_ BK415.out) hb); have n6_ := Aside0.mk (below_step (bl2_ HB.out GE400.out GE415.out) hb); clear HO405; clear HO408; clear HO414; clear HO418; clear BK400; clear BK415; clear HB; have HO405 := n0_; have HO408 := n1_; have HO414 := n2_; have HO418 := n3_; have BK400 := n4_; have BK415 := n5_; have HB := n6_; clear n0_ n1_ n2_ n3_ n4_ n5_ n6_; (try clear hb); (try clear hb2); (try clear hk); (try clear hi)))
     go_meet
     case rel => exact ⟨_, ((t420 != t410)), rs_, H', ⟨by first | omega | exact Nat.le_refl _⟩, ⟨by (with_reducible repeat (first | apply Kd.R_alloc | apply Kd.R_drewN | apply Kd.R_drew)); exact Kd.R_mono HO408.out (fun _ hk => hk.2)⟩, ⟨by (with_reducible repeat (first | apply Kd.R_alloc | apply Kd.R_drewN | apply Kd.R_drew)); exact Kd.R_mono HO418.out (fun _ hk => hk.2)⟩, ⟨by (with_reducible repeat (first | apply Kd.R_alloc | apply Kd.R_drewN | apply Kd.R_drew)); exact Kd.R_mono HO414.out (fun _ hk => trivial)⟩, ⟨bk_ BK400.out⟩, ⟨bk_ BK415.out⟩, ⟨bl2_ HB.out GE400.out GE415.out⟩⟩
    ·rw [if_neg c30] at H
     have c30b0 : (t419 == t409) = false := beq_eq_false_iff_ne.mpr c30
     have c30b1 : (t419 != t409) = true := bne_iff_ne.mpr c30
     (first | rw [c30b0] | (simp only [i64_w, i32_w]; rw [c30b0]) | skip)
     have H' := Aside0.mk H
     clear H
     obtain ⟨Ao34, co34, eo34⟩ := Kd.R_slice HO418.out
     subst eo34
     obtain ⟨Ao35, co35, eo35⟩ := Kd.R_slice HO408.out
     subst eo35
     go_wp2_with (first | ((with_reducible refine gate_callee (f := 18) rfl ?_); refine goesL_ (some 47) rfl rfl Try.func18 (by kernel_rfl) rfl #[.slice Ao34 t416.length co34, .slice Ao35 t406.length co35] rfl mp_ ?_; (with_reducible refine (laws_eqSpotS.calls k _ _ t416 _ _ t406 true _ ?side1 ?side2 ?side3 ?side4 A28.out).mono ?_); (case side1 => exact ca_ (Kd.R_reads' HO418.out).2.2); (case side2 => exact (Kd.R_reads' HO418.out).2.1); (case side3 => exact ca_ (Kd.R_reads' HO408.out).2.2); (case side4 => exact (Kd.R_reads' HO408.out).2.1); rintro e w36 ⟨rfl, hb⟩; refine ⟨_, rfl, ?_⟩; have n0_ := Aside0.mk (Kd.R_below (ra_ HO405.out) hb); have n1_ := Aside0.mk (Kd.R_below (ra_ HO408.out) hb); have n2_ := Aside0.mk (Kd.R_below (ra_ HO414.out) hb); have n3_ := Aside0.mk (Kd.R_below (ra_ HO418.out) hb); have n4_ := Aside0.mk (blk_below (g := gb400) (o := .cells #[.int .i64 a0_0, .slice A0_1 l0_1.length c0_1] 42 (0, 0)) (bk_ BK400.out) hb); have n5_ := Aside0.mk (blk_below (g := gb415) (o := .cells #[.int .i64 t411, .slice Ao26 t412.length co26] 26 (0, 0)) (bk_ BK415.out) hb); have n6_ := Aside0.mk (below_step (bl2_ HB.out GE400.out GE415.out) hb); clear HO405; clear HO408; clear HO414; clear HO418; clear BK400; clear BK415; clear HB; have HO405 := n0_; have HO408 := n1_; have HO414 := n2_; have HO418 := n3_; have BK400 := n4_; have BK415 := n5_; have HB := n6_; clear n0_ n1_ n2_ n3_ n4_ n5_ n6_; (try clear hb); (try clear hb2); (try clear hk); (try clear hi)))
     go_meet
     case rel => exact ⟨_, (true), rs_, H', ⟨by first | omega | exact Nat.le_refl _⟩, ⟨by (with_reducible repeat (first | apply Kd.R_alloc | apply Kd.R_drewN | apply Kd.R_drew)); exact Kd.R_mono HO408.out (fun _ hk => hk.2)⟩, ⟨by (with_reducible repeat (first | apply Kd.R_alloc | apply Kd.R_drewN | apply Kd.R_drew)); exact Kd.R_mono HO418.out (fun _ hk => hk.2)⟩, ⟨by (with_reducible repeat (first | apply Kd.R_alloc | apply Kd.R_drewN | apply Kd.R_drew)); exact Kd.R_mono HO414.out (fun _ hk => trivial)⟩, ⟨bk_ BK400.out⟩, ⟨bk_ BK415.out⟩, ⟨bl2_ HB.out GE400.out GE415.out⟩⟩
   ·replace c29 := Bool.eq_false_iff.mpr c29
    subst c29
    have H1 : (laws_FnExactFirstPacking.j0 k a1 a2 t406 t409 t410 t416 t419 t420 true a0_0 l0_1 t411 t412) = some r := by rw [if_neg (show ¬ (false = true) by decide)] at H; exact H
    clear H
    have H := H1
    clear H1
    have H' := Aside0.mk H
    clear H
    obtain ⟨Ao37, co37, eo37⟩ := Kd.R_slice HO418.out
    subst eo37
    obtain ⟨Ao38, co38, eo38⟩ := Kd.R_slice HO408.out
    subst eo38
    go_wp2_with (first | ((with_reducible refine gate_callee (f := 18) rfl ?_); refine goesL_ (some 47) rfl rfl Try.func18 (by kernel_rfl) rfl #[.slice Ao37 t416.length co37, .slice Ao38 t406.length co38] rfl mp_ ?_; (with_reducible refine (laws_eqSpotS.calls k _ _ t416 _ _ t406 false _ ?side1 ?side2 ?side3 ?side4 A28.out).mono ?_); (case side1 => exact ca_ (Kd.R_reads' HO418.out).2.2); (case side2 => exact (Kd.R_reads' HO418.out).2.1); (case side3 => exact ca_ (Kd.R_reads' HO408.out).2.2); (case side4 => exact (Kd.R_reads' HO408.out).2.1); rintro e w39 ⟨rfl, hb⟩; refine ⟨_, rfl, ?_⟩; have n0_ := Aside0.mk (Kd.R_below (ra_ HO405.out) hb); have n1_ := Aside0.mk (Kd.R_below (ra_ HO408.out) hb); have n2_ := Aside0.mk (Kd.R_below (ra_ HO414.out) hb); have n3_ := Aside0.mk (Kd.R_below (ra_ HO418.out) hb); have n4_ := Aside0.mk (blk_below (g := gb400) (o := .cells #[.int .i64 a0_0, .slice A0_1 l0_1.length c0_1] 42 (0, 0)) (bk_ BK400.out) hb); have n5_ := Aside0.mk (blk_below (g := gb415) (o := .cells #[.int .i64 t411, .slice Ao26 t412.length co26] 26 (0, 0)) (bk_ BK415.out) hb); have n6_ := Aside0.mk (below_step (bl2_ HB.out GE400.out GE415.out) hb); clear HO405; clear HO408; clear HO414; clear HO418; clear BK400; clear BK415; clear HB; have HO405 := n0_; have HO408 := n1_; have HO414 := n2_; have HO418 := n3_; have BK400 := n4_; have BK415 := n5_; have HB := n6_; clear n0_ n1_ n2_ n3_ n4_ n5_ n6_; (try clear hb); (try clear hb2); (try clear hk); (try clear hi)))
    go_meet
    case rel => exact ⟨_, (true), rs_, H', ⟨by first | omega | exact Nat.le_refl _⟩, ⟨by (with_reducible repeat (first | apply Kd.R_alloc | apply Kd.R_drewN | apply Kd.R_drew)); exact Kd.R_mono HO408.out (fun _ hk => hk.2)⟩, ⟨by (with_reducible repeat (first | apply Kd.R_alloc | apply Kd.R_drewN | apply Kd.R_drew)); exact Kd.R_mono HO418.out (fun _ hk => hk.2)⟩, ⟨by (with_reducible repeat (first | apply Kd.R_alloc | apply Kd.R_drewN | apply Kd.R_drew)); exact Kd.R_mono HO414.out (fun _ hk => trivial)⟩, ⟨bk_ BK400.out⟩, ⟨bk_ BK415.out⟩, ⟨bl2_ HB.out GE400.out GE415.out⟩⟩
  case rest =>
   clear HC13
   try clear c1
   try clear c2
   try clear p2
   try clear c3
   try clear c5
   try clear c5b0
   try clear c9
   try clear c13
   try clear c15
   try clear c17
   try clear c18
   try clear c24
   try clear c29
   try clear c30
   try clear c30b0
   try clear c30b1
   try clear hcz15_0
   try clear hcz15_1
   try clear hcz17_0
   try clear hcz17_1
   try clear hcz21_0
   try clear hcz21_1
   try clear hcz25_0
   try clear hcz25_1
   try clear hcz7_0
   try clear hcz7_1
   try clear hfz15_0
   try clear hfz15_1
   try clear hfz17_0
   try clear hfz17_1
   try clear hfz21_0
   try clear hfz21_1
   try clear hfz25_0
   try clear hfz25_1
   try clear hfz7_0
   try clear hfz7_1
   obtain ⟨kq, x58_12, rfl, HA, HJ12, HO_8, HO_12, HO_416001, BK400, BK415, HB⟩ := hcut
   cases kq with
   | zero => exact absurd HA.out (by simp [laws_FnExactFirstPacking.j0])
   | succ kj12 =>
    have H := HA.out
    clear HA
    simp only [laws_FnExactFirstPacking.j0] at H
    by_cases c40 : x58_12 = true
    ·subst c40
     have H1 : (some false) = some r := by rw [if_pos rfl] at H; exact H
     clear H
     have H := H1
     clear H1
     obtain rfl := Option.some.inj H
     go_wp2
     go_ret
     exact ⟨re_, bl2_ HB.out GE400.out GE415.out⟩
    ·replace c40 := Bool.eq_false_iff.mpr c40
     subst c40
     have H1 : ((laws_toTree.f kj12 a0_0 l0_1).bind fun bt422 => ((laws_eqTree.f kj12 t411 t412 bt422.1 bt422.2).bind fun t426 => (if t426 = true then ((laws_markTree.f kj12 t411 t412 1).bind fun bt427 => (if bt427.1 < 0 then (laws_FnExactFirstPacking.j1 kj12 a1 a2 t406 t409 t410 t416 true a0_0 l0_1) else ((laws_eqSpotS.f kj12 t416 t406).bind fun t429 => (if t429 = true then (if t419 = t409 then (laws_FnExactFirstPacking.j1 kj12 a1 a2 t406 t409 t410 t416 (t420 != t410) a0_0 l0_1) else (laws_FnExactFirstPacking.j1 kj12 a1 a2 t406 t409 t410 t416 true a0_0 l0_1)) else (laws_FnExactFirstPacking.j1 kj12 a1 a2 t406 t409 t410 t416 true a0_0 l0_1))))) else (some false)))) = some r := by rw [if_neg (show ¬ (false = true) by decide)] at H; exact H
     clear H
     have H := H1
     clear H1
     replace H := Option.bind_eq_some_iff.mp H
     obtain ⟨⟨t422, t423⟩, A410, H⟩ := H
     replace H : ((laws_eqTree.f kj12 t411 t412 t422 t423).bind fun t426 => (if t426 = true then ((laws_markTree.f kj12 t411 t412 1).bind fun bt427 => (if bt427.1 < 0 then (laws_FnExactFirstPacking.j1 kj12 a1 a2 t406 t409 t410 t416 true a0_0 l0_1) else ((laws_eqSpotS.f kj12 t416 t406).bind fun t429 => (if t429 = true then (if t419 = t409 then (laws_FnExactFirstPacking.j1 kj12 a1 a2 t406 t409 t410 t416 (t420 != t410) a0_0 l0_1) else (laws_FnExactFirstPacking.j1 kj12 a1 a2 t406 t409 t410 t416 true a0_0 l0_1)) else (laws_FnExactFirstPacking.j1 kj12 a1 a2 t406 t409 t410 t416 true a0_0 l0_1))))) else (some false))) = some r := H
     have A41 := Aside0.mk A410
     clear A410
     replace H := Option.bind_eq_some_iff.mp H
     obtain ⟨t426, A420, H⟩ := H
     replace H : (if t426 = true then ((laws_markTree.f kj12 t411 t412 1).bind fun bt427 => (if bt427.1 < 0 then (laws_FnExactFirstPacking.j1 kj12 a1 a2 t406 t409 t410 t416 true a0_0 l0_1) else ((laws_eqSpotS.f kj12 t416 t406).bind fun t429 => (if t429 = true then (if t419 = t409 then (laws_FnExactFirstPacking.j1 kj12 a1 a2 t406 t409 t410 t416 (t420 != t410) a0_0 l0_1) else (laws_FnExactFirstPacking.j1 kj12 a1 a2 t406 t409 t410 t416 true a0_0 l0_1)) else (laws_FnExactFirstPacking.j1 kj12 a1 a2 t406 t409 t410 t416 true a0_0 l0_1))))) else (some false)) = some r := H
     have A42 := Aside0.mk A420
     clear A420
     by_cases c43 : t426 = true
     ·subst c43
      have H1 : ((laws_markTree.f kj12 t411 t412 1).bind fun bt427 => (if bt427.1 < 0 then (laws_FnExactFirstPacking.j1 kj12 a1 a2 t406 t409 t410 t416 true a0_0 l0_1) else ((laws_eqSpotS.f kj12 t416 t406).bind fun t429 => (if t429 = true then (if t419 = t409 then (laws_FnExactFirstPacking.j1 kj12 a1 a2 t406 t409 t410 t416 (t420 != t410) a0_0 l0_1) else (laws_FnExactFirstPacking.j1 kj12 a1 a2 t406 t409 t410 t416 true a0_0 l0_1)) else (laws_FnExactFirstPacking.j1 kj12 a1 a2 t406 t409 t410 t416 true a0_0 l0_1))))) = some r := by rw [if_pos rfl] at H; exact H
      clear H
      have H := H1
      clear H1
      replace H := Option.bind_eq_some_iff.mp H
      obtain ⟨⟨t427, t428⟩, A440, H⟩ := H
      replace H : (if t427 < 0 then (laws_FnExactFirstPacking.j1 kj12 a1 a2 t406 t409 t410 t416 true a0_0 l0_1) else ((laws_eqSpotS.f kj12 t416 t406).bind fun t429 => (if t429 = true then (if t419 = t409 then (laws_FnExactFirstPacking.j1 kj12 a1 a2 t406 t409 t410 t416 (t420 != t410) a0_0 l0_1) else (laws_FnExactFirstPacking.j1 kj12 a1 a2 t406 t409 t410 t416 true a0_0 l0_1)) else (laws_FnExactFirstPacking.j1 kj12 a1 a2 t406 t409 t410 t416 true a0_0 l0_1)))) = some r := H
      have A44 := Aside0.mk A440
      clear A440
      have HC45 := Aside0.mk H
      clear H
      try go_wp2
      have n0_ := Aside0.mk (Kd.R_drew HO_8.out)
      have n1_ := Aside0.mk (Kd.R_drew HO_12.out)
      have n2_ := Aside0.mk (Kd.R_drew HO_416001.out)
      have n3_ := Aside0.mk (blk_drew BK400.out)
      have n4_ := Aside0.mk (blk_drew BK415.out)
      have n5_ := Aside0.mk (below_drew1 HB.out)
      clear HO_8
      clear HO_12
      clear HO_416001
      clear BK400
      clear BK415
      clear HB
      have HO_8 := n0_
      have HO_12 := n1_
      have HO_416001 := n2_
      have BK400 := n3_
      have BK415 := n4_
      have HB := n5_
      clear n0_ n1_ n2_ n3_ n4_ n5_
      refine start_ (n := 5) (S := fun w' => w'.cell? ⟨gb415, 0, none⟩ = some (.int .i64 t411) ∧ w'.cell? ⟨gb415, 1, none⟩ = some (.slice Ao26 t412.length co26) ∧ w'.cell? ⟨gb400, 0, none⟩ = some (.int .i64 a0_0) ∧ w'.cell? ⟨gb400, 1, none⟩ = some (.slice A0_1 l0_1.length c0_1)) (ds := []) #[false,false,false,false,false] (by kernel_rfl) rfl rfl ⟨(blk_cell BK415.out 0).trans rfl, (blk_cell BK415.out 1).trans rfl, (blk_cell BK400.out 0).trans rfl, (blk_cell BK400.out 1).trans rfl⟩ (fun hHeld => ?_)
      generalize wc.drew = w46 at HO_8 HO_12 HO_416001 BK400 BK415 HB hHeld ⊢
      refine tkz_ 0 (some 59) #[true,false,false,false,false] rfl rfl (by kernel_rfl) hHeld ?_
      refine tkz_ 1 (some 60) #[true,true,false,false,false] rfl rfl (by kernel_rfl) hHeld ?_
      refine one_ (i := 2) (N := some 61) #[true,true,true,false,false] rfl rfl (by kernel_rfl) (by decide) (fun K hK => ?_)
      refine goes_ Try.func15 (by kernel_rfl) rfl #[.agg #[.int .i64 a0_0, .slice A0_1 l0_1.length c0_1]] (by rfl) rfl rfl mp_ ?_
      with_reducible refine (laws_toTree.calls kj12 a0_0 _ _ l0_1 t422 t423 _ ?side1 ?side2 A41.out).mono ?_
      (case side1 => exact ca_ (Kd.C_below HR0_1.out HB.out))
      (case side2 => exact HC0_1.out)
      rintro e w47 ⟨v424, rfl, ho0, hb⟩
      refine ⟨_, rfl, ?_⟩
      have n0_ := Aside0.mk (Kd.R_below (ra_ HO_8.out) hb)
      have n1_ := Aside0.mk (Kd.R_below (ra_ HO_12.out) hb)
      have n2_ := Aside0.mk (Kd.R_elder' (ra_ HO_416001.out) (Kd.R_base ho0) hb)
      have n3_ := Aside0.mk (Kd.R_lower (Kd.R_new' ho0 (Kd.R_lt (ra_ HO_416001.out))) (below_size (bl2_ HB.out GE400.out GE415.out)))
      have n4_ := Aside0.mk (blk_below (g := gb400) (o := .cells #[.int .i64 a0_0, .slice A0_1 l0_1.length c0_1] 42 (0, 0)) (bk_ BK400.out) hb)
      have n5_ := Aside0.mk (blk_below (g := gb415) (o := .cells #[.int .i64 t411, .slice Ao26 t412.length co26] 26 (0, 0)) (bk_ BK415.out) hb)
      have n6_ := Aside0.mk (below_step (bl2_ HB.out GE400.out GE415.out) hb)
      clear HO_8
      clear HO_12
      clear HO_416001
      clear BK400
      clear BK415
      clear HB
      have HO_8 := n0_
      have HO_12 := n1_
      have HO_416001 := n2_
      have HO425 := n3_
      have BK400 := n4_
      have BK415 := n5_
      have HB := n6_
      clear n0_ n1_ n2_ n3_ n4_ n5_ n6_
      (try clear hb)
      (try clear hb2)
      (try clear hk)
      (try clear hi)
      (try clear ho0)
      obtain ⟨Ao48, co48, eo48⟩ := Kd.R_slice HO425.out
      (first | subst eo48 | (injection eo48 with f1_ f2_ f3_; have f4_ := f1_.symm; have f5_ := f3_.symm; clear f1_ f2_ f3_; subst f4_; subst f5_))
      refine hK.out _ _ ⟨(blk_cell BK415.out 0).trans rfl, (blk_cell BK415.out 1).trans rfl, (blk_cell BK400.out 0).trans rfl, (blk_cell BK400.out 1).trans rfl⟩ (fun hHeld => ?_)
      clear hK K
      refine norm_ (a' := ?_) ?_ ?_
      rotate_left
      ·show Act.put _ (some 61) _ = _
       simp only [Act.put, List.setIfInBounds_toArray, List.set_cons_zero, List.set_cons_succ, i64_w, i32_w]
       rfl
      refine one_ (i := 3) (N := some 62) #[true,true,true,true,false] rfl rfl (by kernel_rfl) (by decide) (fun K hK => ?_)
      refine goes_ Try.func16 (by kernel_rfl) rfl #[.agg #[.int .i64 t411, .slice Ao26 t412.length co26], .agg #[.int .i64 t422, .slice Ao48 t423.length co48]] (by rfl) rfl rfl mp_ ?_
      with_reducible refine (laws_eqTree.calls kj12 t411 _ _ t412 t422 _ _ t423 true _ ?side1 ?side2 ?side3 ?side4 A42.out).mono ?_
      (case side1 => exact ca_ (Kd.R_reads' HO_416001.out).2.2)
      (case side2 => exact (Kd.R_reads' HO_416001.out).2.1)
      (case side3 => exact ca_ (Kd.R_reads' HO425.out).2.2)
      (case side4 => exact (Kd.R_reads' HO425.out).2.1)
      rintro e w49 ⟨rfl, hb⟩
      refine ⟨_, rfl, ?_⟩
      have n0_ := Aside0.mk (Kd.R_below (ra_ HO_8.out) hb)
      have n1_ := Aside0.mk (Kd.R_below (ra_ HO_12.out) hb)
      have n2_ := Aside0.mk (Kd.R_below (ra_ HO_416001.out) hb)
      have n3_ := Aside0.mk (Kd.R_below (ra_ HO425.out) hb)
      have n4_ := Aside0.mk (blk_below (g := gb400) (o := .cells #[.int .i64 a0_0, .slice A0_1 l0_1.length c0_1] 42 (0, 0)) (bk_ BK400.out) hb)
      have n5_ := Aside0.mk (blk_below (g := gb415) (o := .cells #[.int .i64 t411, .slice Ao26 t412.length co26] 26 (0, 0)) (bk_ BK415.out) hb)
      have n6_ := Aside0.mk (below_step (bl2_ HB.out GE400.out GE415.out) hb)
      clear HO_8
      clear HO_12
      clear HO_416001
      clear HO425
      clear BK400
      clear BK415
      clear HB
      have HO_8 := n0_
      have HO_12 := n1_
      have HO_416001 := n2_
      have HO425 := n3_
      have BK400 := n4_
      have BK415 := n5_
      have HB := n6_
      clear n0_ n1_ n2_ n3_ n4_ n5_ n6_
      (try clear hb)
      (try clear hb2)
      (try clear hk)
      (try clear hi)
      refine hK.out _ _ ⟨(blk_cell BK415.out 0).trans rfl, (blk_cell BK415.out 1).trans rfl, (blk_cell BK400.out 0).trans rfl, (blk_cell BK400.out 1).trans rfl⟩ (fun hHeld => ?_)
      clear hK K
      refine norm_ (a' := ?_) ?_ ?_
      rotate_left
      ·show Act.put _ (some 62) _ = _
       simp only [Act.put, List.setIfInBounds_toArray, List.set_cons_zero, List.set_cons_succ, i64_w, i32_w]
       rfl
      refine puz_ 4 (some 63) #[true,true,true,true,true] rfl rfl (by kernel_rfl) ?_
      refine done_ (by kernel_rfl) ?_
      have hnb50 := NB415_400.out
      have hnc50 := NB400_415.out
      obtain ⟨hcz51_0, hcz51_1, hfz51_0, hfz51_1⟩ := cz2_ BK415.out
      go_upto_region 14 with (first | ((with_reducible refine gate_callee (f := 19) rfl ?_); refine goesL_ (some 66) rfl rfl Try.func19 (by kernel_rfl) rfl #[.agg #[.int .i64 t411, .slice Ao26 t412.length co26], .int .i64 1] rfl mp_ ?_; (with_reducible refine (laws_markTree.calls kj12 t411 (fun k_ => some k_ = (.slice Ao26 t412.length co26 : Value).ownBlock) (.slice Ao26 t412.length co26) t412 1 t427 t428 w _ ?side1 ?side2 A44.out).mono ?_); (case side1 => repeat (first | (with_reducible first | exact HB.out | apply below_alloc | apply pw_below_drewN | apply below_drew1 | refine below_set ?_ GE400.out | refine below_set ?_ GE415.out) | exact HB.out)); (case side2 => exact Kd.R_tight rfl HO_416001.out); rintro e w52 ⟨rfl, hy0, hb, hkp⟩; refine ⟨_, rfl, ?_⟩; have n0_ := Aside0.mk (Kd.R_mono (ok' := fun k_ => some k_ ≠ (v417 : Value).ownBlock) (Kd.R_keptB ((Kd.R_apart' HO_8.out (Kd.R_typed HO_416001.out) (by decide))) hkp (fun k_ hk_ hs_ => (hk_.2) hs_)) (fun k_ hk_ => hk_.1.1)); have n1_ := Aside0.mk (Kd.R_mono (ok' := fun k_ => some k_ ≠ (v407 : Value).ownBlock) (Kd.R_keptB ((Kd.R_apart' HO_12.out (Kd.R_typed HO_416001.out) (by decide))) hkp (fun k_ hk_ hs_ => (hk_.2) hs_)) (fun k_ hk_ => hk_.1.1)); have n2_ := Aside0.mk (Kd.R_reok rfl hy0 (fun k_ e_ => HO_416001.out.1 k_ e_)); have n3_ := Aside0.mk (blk_kept (bk_ BK400.out) hkp (fun hs_ => (fun e_ => (Kd.R_ne HO_416001.out BK400.out (by decide)) e_) hs_)); have n4_ := Aside0.mk (blk_kept (bk_ BK415.out) hkp (fun hs_ => (fun e_ => (Kd.R_ne HO_416001.out BK415.out (by decide)) e_) hs_)); have n5_ := Aside0.mk (Kd.R_mono (ok' := fun k_ => some k_ ≠ (.slice Ao26 t412.length co26 : Value).ownBlock) (Kd.R_keptB (HO425.out) hkp (fun k_ hk_ hs_ => (hk_.2) hs_)) (fun k_ hk_ => hk_.1.2)); have n6_ := Aside0.mk (hb); clear HO_8; clear HO_12; clear HO_416001; clear BK400; clear BK415; clear HO425; clear HB; have HO_8 := n0_; have HO_12 := n1_; have HO_416001 := n2_; have BK400 := n3_; have BK415 := n4_; have HO425 := n5_; have HB := n6_; clear n0_ n1_ n2_ n3_ n4_ n5_ n6_; (try clear hb); (try clear hkp); (try clear hy0)))
      (try simp only [Act.put, List.setIfInBounds_toArray, List.set_cons_zero, List.set_cons_succ])
      go_cut [84] (fun v84 wc => ∃ (kq : Nat) (x84_44 : Bool), v84 = .bool x84_44 ∧ Aside0 (laws_FnExactFirstPacking.j1 kq a1 a2 t406 t409 t410 t416 x84_44 a0_0 l0_1 = some r) ∧ Aside0 (kq ≤ kj12) ∧ Aside0 (Kd.R k37 37 wc w.heap.size (fun k_ => some k_ ≠ (v417 : Value).ownBlock) v407 t406) ∧ Aside0 (Kd.R k37 37 wc w.heap.size (fun k_ => some k_ ≠ (v407 : Value).ownBlock) v417 t416) ∧ Aside0 (Kd.R k75 75 wc w.heap.size (fun _ => True) (.slice Ao26 t412.length co26) t428) ∧ Aside0 (wc.heap[gb400]? = some (.cells #[.int .i64 a0_0, (.slice A0_1 l0_1.length c0_1)] 42 (0, 0))) ∧ Aside0 (wc.heap[gb415]? = some (.cells #[.int .i64 t411, (.slice Ao26 t412.length co26)] 26 (0, 0))) ∧ Aside0 (Below w.heap.size w wc))
      case first =>
       have H := HC45.out
       clear HC45
       by_cases c53 : t427 < 0
       ·rw [if_pos c53] at H
        have c53b0 := decide_eq_true c53
        clear c53
        (first | rw [c53b0] | (simp only [i64_w, i32_w]; rw [c53b0]) | skip)
        have H' := Aside0.mk H
        clear H
        go_wp2
        go_meet
        case rel => exact ⟨_, (true), rs_, H', ⟨by have := HJ12.out; first | omega | exact Nat.le_refl _⟩, ⟨ra_ HO_8.out⟩, ⟨ra_ HO_12.out⟩, ⟨by (with_reducible repeat (first | apply Kd.R_alloc | apply Kd.R_drewN | apply Kd.R_drew)); exact Kd.R_mono HO_416001.out (fun _ hk => trivial)⟩, ⟨bk_ BK400.out⟩, ⟨bk_ BK415.out⟩, ⟨bl2_ HB.out GE400.out GE415.out⟩⟩
       ·rw [if_neg c53] at H
        have c53b0 := decide_eq_false c53
        clear c53
        (first | rw [c53b0] | (simp only [i64_w, i32_w]; rw [c53b0]) | skip)
        replace H := Option.bind_eq_some_iff.mp H
        obtain ⟨t429, A540, H⟩ := H
        replace H : (if t429 = true then (if t419 = t409 then (laws_FnExactFirstPacking.j1 kj12 a1 a2 t406 t409 t410 t416 (t420 != t410) a0_0 l0_1) else (laws_FnExactFirstPacking.j1 kj12 a1 a2 t406 t409 t410 t416 true a0_0 l0_1)) else (laws_FnExactFirstPacking.j1 kj12 a1 a2 t406 t409 t410 t416 true a0_0 l0_1)) = some r := H
        have A54 := Aside0.mk A540
        clear A540
        by_cases c55 : t429 = true
        ·subst c55
         have H1 : (if t419 = t409 then (laws_FnExactFirstPacking.j1 kj12 a1 a2 t406 t409 t410 t416 (t420 != t410) a0_0 l0_1) else (laws_FnExactFirstPacking.j1 kj12 a1 a2 t406 t409 t410 t416 true a0_0 l0_1)) = some r := by rw [if_pos rfl] at H; exact H
         clear H
         have H := H1
         clear H1
         by_cases c56 : t419 = t409
         ·rw [if_pos c56] at H
          have c56b0 : (t419 == t409) = true := beq_iff_eq.mpr c56
          have c56b1 : (t419 != t409) = false := bne_eq_false_iff_eq.mpr c56
          clear c56
          have H' := Aside0.mk H
          clear H
          obtain ⟨Ao57, co57, eo57⟩ := Kd.R_slice HO_12.out
          subst eo57
          obtain ⟨Ao58, co58, eo58⟩ := Kd.R_slice HO_8.out
          subst eo58
          go_wp2_with (first | (go_at_call 18; (with_reducible refine (laws_eqSpotS.calls kj12 _ _ t416 _ _ t406 true _ ?side1 ?side2 ?side3 ?side4 A54.out).mono ?_); (case side1 => exact ca_ (Kd.R_reads' HO_12.out).2.2); (case side2 => exact (Kd.R_reads' HO_12.out).2.1); (case side3 => exact ca_ (Kd.R_reads' HO_8.out).2.2); (case side4 => exact (Kd.R_reads' HO_8.out).2.1); rintro e w59 ⟨rfl, hb⟩; have n0_ := Aside0.mk (Kd.R_below (ra_ HO_8.out) hb); have n1_ := Aside0.mk (Kd.R_below (ra_ HO_12.out) hb); have n2_ := Aside0.mk (Kd.R_below (ra_ HO_416001.out) hb); have n3_ := Aside0.mk (Kd.R_below (ra_ HO425.out) hb); have n4_ := Aside0.mk (blk_below (g := gb400) (o := .cells #[.int .i64 a0_0, .slice A0_1 l0_1.length c0_1] 42 (0, 0)) (bk_ BK400.out) hb); have n5_ := Aside0.mk (blk_below (g := gb415) (o := .cells #[.int .i64 t411, .slice Ao26 t412.length co26] 26 (0, 0)) (bk_ BK415.out) hb); have n6_ := Aside0.mk (below_step (bl2_ HB.out GE400.out GE415.out) hb); clear HO_8; clear HO_12; clear HO_416001; clear HO425; clear BK400; clear BK415; clear HB; have HO_8 := n0_; have HO_12 := n1_; have HO_416001 := n2_; have HO425 := n3_; have BK400 := n4_; have BK415 := n5_; have HB := n6_; clear n0_ n1_ n2_ n3_ n4_ n5_ n6_; (try clear hb); (try clear hb2); (try clear hk); (try clear hi)))
          go_meet
          case rel => exact ⟨_, ((t420 != t410)), rs_, H', ⟨by have := HJ12.out; first | omega | exact Nat.le_refl _⟩, ⟨ra_ HO_8.out⟩, ⟨ra_ HO_12.out⟩, ⟨by (with_reducible repeat (first | apply Kd.R_alloc | apply Kd.R_drewN | apply Kd.R_drew)); exact Kd.R_mono HO_416001.out (fun _ hk => trivial)⟩, ⟨bk_ BK400.out⟩, ⟨bk_ BK415.out⟩, ⟨bl2_ HB.out GE400.out GE415.out⟩⟩
         ·rw [if_neg c56] at H
          have c56b0 : (t419 == t409) = false := beq_eq_false_iff_ne.mpr c56
          have c56b1 : (t419 != t409) = true := bne_iff_ne.mpr c56
          have H' := Aside0.mk H
          clear H
          obtain ⟨Ao60, co60, eo60⟩ := Kd.R_slice HO_12.out
          subst eo60
          obtain ⟨Ao61, co61, eo61⟩ := Kd.R_slice HO_8.out
          subst eo61
          go_wp2_with (first | (go_at_call 18; (with_reducible refine (laws_eqSpotS.calls kj12 _ _ t416 _ _ t406 true _ ?side1 ?side2 ?side3 ?side4 A54.out).mono ?_); (case side1 => exact ca_ (Kd.R_reads' HO_12.out).2.2); (case side2 => exact (Kd.R_reads' HO_12.out).2.1); (case side3 => exact ca_ (Kd.R_reads' HO_8.out).2.2); (case side4 => exact (Kd.R_reads' HO_8.out).2.1); rintro e w62 ⟨rfl, hb⟩; have n0_ := Aside0.mk (Kd.R_below (ra_ HO_8.out) hb); have n1_ := Aside0.mk (Kd.R_below (ra_ HO_12.out) hb); have n2_ := Aside0.mk (Kd.R_below (ra_ HO_416001.out) hb); have n3_ := Aside0.mk (Kd.R_below (ra_ HO425.out) hb); have n4_ := Aside0.mk (blk_below (g := gb400) (o := .cells #[.int .i64 a0_0, .slice A0_1 l0_1.length c0_1] 42 (0, 0)) (bk_ BK400.out) hb); have n5_ := Aside0.mk (blk_below (g := gb415) (o := .cells #[.int .i64 t411, .slice Ao26 t412.length co26] 26 (0, 0)) (bk_ BK415.out) hb); have n6_ := Aside0.mk (below_step (bl2_ HB.out GE400.out GE415.out) hb); clear HO_8; clear HO_12; clear HO_416001; clear HO425; clear BK400; clear BK415; clear HB; have HO_8 := n0_; have HO_12 := n1_; have HO_416001 := n2_; have HO425 := n3_; have BK400 := n4_; have BK415 := n5_; have HB := n6_; clear n0_ n1_ n2_ n3_ n4_ n5_ n6_; (try clear hb); (try clear hb2); (try clear hk); (try clear hi)))
          go_meet
          case rel => exact ⟨_, (true), rs_, H', ⟨by have := HJ12.out; first | omega | exact Nat.le_refl _⟩, ⟨ra_ HO_8.out⟩, ⟨ra_ HO_12.out⟩, ⟨by (with_reducible repeat (first | apply Kd.R_alloc | apply Kd.R_drewN | apply Kd.R_drew)); exact Kd.R_mono HO_416001.out (fun _ hk => trivial)⟩, ⟨bk_ BK400.out⟩, ⟨bk_ BK415.out⟩, ⟨bl2_ HB.out GE400.out GE415.out⟩⟩
        ·replace c55 := Bool.eq_false_iff.mpr c55
         subst c55
         have H1 : (laws_FnExactFirstPacking.j1 kj12 a1 a2 t406 t409 t410 t416 true a0_0 l0_1) = some r := by rw [if_neg (show ¬ (false = true) by decide)] at H; exact H
         clear H
         have H := H1
         clear H1
         have H' := Aside0.mk H
         clear H
         obtain ⟨Ao63, co63, eo63⟩ := Kd.R_slice HO_12.out
         subst eo63
         obtain ⟨Ao64, co64, eo64⟩ := Kd.R_slice HO_8.out
         subst eo64
         go_wp2_with (first | (go_at_call 18; (with_reducible refine (laws_eqSpotS.calls kj12 _ _ t416 _ _ t406 false _ ?side1 ?side2 ?side3 ?side4 A54.out).mono ?_); (case side1 => exact ca_ (Kd.R_reads' HO_12.out).2.2); (case side2 => exact (Kd.R_reads' HO_12.out).2.1); (case side3 => exact ca_ (Kd.R_reads' HO_8.out).2.2); (case side4 => exact (Kd.R_reads' HO_8.out).2.1); rintro e w65 ⟨rfl, hb⟩; have n0_ := Aside0.mk (Kd.R_below (ra_ HO_8.out) hb); have n1_ := Aside0.mk (Kd.R_below (ra_ HO_12.out) hb); have n2_ := Aside0.mk (Kd.R_below (ra_ HO_416001.out) hb); have n3_ := Aside0.mk (Kd.R_below (ra_ HO425.out) hb); have n4_ := Aside0.mk (blk_below (g := gb400) (o := .cells #[.int .i64 a0_0, .slice A0_1 l0_1.length c0_1] 42 (0, 0)) (bk_ BK400.out) hb); have n5_ := Aside0.mk (blk_below (g := gb415) (o := .cells #[.int .i64 t411, .slice Ao26 t412.length co26] 26 (0, 0)) (bk_ BK415.out) hb); have n6_ := Aside0.mk (below_step (bl2_ HB.out GE400.out GE415.out) hb); clear HO_8; clear HO_12; clear HO_416001; clear HO425; clear BK400; clear BK415; clear HB; have HO_8 := n0_; have HO_12 := n1_; have HO_416001 := n2_; have HO425 := n3_; have BK400 := n4_; have BK415 := n5_; have HB := n6_; clear n0_ n1_ n2_ n3_ n4_ n5_ n6_; (try clear hb); (try clear hb2); (try clear hk); (try clear hi)))
         go_meet
         case rel => exact ⟨_, (true), rs_, H', ⟨by have := HJ12.out; first | omega | exact Nat.le_refl _⟩, ⟨ra_ HO_8.out⟩, ⟨ra_ HO_12.out⟩, ⟨by (with_reducible repeat (first | apply Kd.R_alloc | apply Kd.R_drewN | apply Kd.R_drew)); exact Kd.R_mono HO_416001.out (fun _ hk => trivial)⟩, ⟨bk_ BK400.out⟩, ⟨bk_ BK415.out⟩, ⟨bl2_ HB.out GE400.out GE415.out⟩⟩
      case rest =>
       clear HC45
       try clear c1
       try clear c2
       try clear p2
       try clear c3
       try clear c4
       try clear c5
       try clear c5b0
       try clear c9
       try clear c13
       try clear c15
       try clear c16
       try clear c17
       try clear c18
       try clear c19
       try clear c24
       try clear c29
       try clear c30
       try clear c30b0
       try clear c30b1
       try clear c40
       try clear c43
       try clear c50
       try clear c53
       try clear c53b0
       try clear c55
       try clear c56
       try clear c56b0
       try clear c56b1
       try clear hcz15_0
       try clear hcz15_1
       try clear hcz17_0
       try clear hcz17_1
       try clear hcz21_0
       try clear hcz21_1
       try clear hcz25_0
       try clear hcz25_1
       try clear hcz51_0
       try clear hcz51_1
       try clear hcz7_0
       try clear hcz7_1
       try clear hfz15_0
       try clear hfz15_1
       try clear hfz17_0
       try clear hfz17_1
       try clear hfz21_0
       try clear hfz21_1
       try clear hfz25_0
       try clear hfz25_1
       try clear hfz51_0
       try clear hfz51_1
       try clear hfz7_0
       try clear hfz7_1
       try clear p2
       obtain ⟨kq, x84_44, rfl, HA, HJ44, HO_8, HO_12, HO_416001, BK400, BK415, HB⟩ := hcut
       have hl416001_44 := (Kd.R_reads' HO_416001.out).1
       rw [hl416001_44] at HO_416001
       (try simp only [hl416001_44])
       (try simp only [hl416001_44] at BK400)
       (try simp only [hl416001_44] at BK415)
       (try simp only [hl416001_44] at HO_8)
       (try simp only [hl416001_44] at HO_12)
       cases kq with
       | zero => exact absurd HA.out (by simp [laws_FnExactFirstPacking.j1])
       | succ kj44 =>
        have H := HA.out
        clear HA
        simp only [laws_FnExactFirstPacking.j1] at H
        by_cases c66 : x84_44 = true
        ·subst c66
         have H1 : (some false) = some r := by rw [if_pos rfl] at H; exact H
         clear H
         have H := H1
         clear H1
         obtain rfl := Option.some.inj H
         go_wp2
         go_ret
         exact ⟨re_, bl2_ HB.out GE400.out GE415.out⟩
        ·replace c66 := Bool.eq_false_iff.mpr c66
         subst c66
         have H1 : ((laws_markSpotS.f kj44 t416 1).bind fun bt430 => ((laws_heldSpotS.f kj44 bt430.2 1).bind fun t432 => (if t432 < 0 then (some false) else (if t432 = bt430.1 then ((laws_toTree.f kj44 a0_0 l0_1).bind fun bt433 => ((impl_FirstPacking.f kj44 bt433.1 bt433.2 a1 a2).bind fun bt437 => ((laws_eqSpotS.f kj44 bt437.1 t406).bind fun t442 => (if t442 = true then (if bt437.2.1 = t409 then (laws_FnExactFirstPacking.j2 kj44 bt430.2 bt430.1 (bt437.2.2 != t410)) else (laws_FnExactFirstPacking.j2 kj44 bt430.2 bt430.1 true)) else (laws_FnExactFirstPacking.j2 kj44 bt430.2 bt430.1 true))))) else (some false))))) = some r := by rw [if_neg (show ¬ (false = true) by decide)] at H; exact H
         clear H
         have H := H1
         clear H1
         replace H := Option.bind_eq_some_iff.mp H
         obtain ⟨⟨t430, t431⟩, A670, H⟩ := H
         replace H : ((laws_heldSpotS.f kj44 t431 1).bind fun t432 => (if t432 < 0 then (some false) else (if t432 = t430 then ((laws_toTree.f kj44 a0_0 l0_1).bind fun bt433 => ((impl_FirstPacking.f kj44 bt433.1 bt433.2 a1 a2).bind fun bt437 => ((laws_eqSpotS.f kj44 bt437.1 t406).bind fun t442 => (if t442 = true then (if bt437.2.1 = t409 then (laws_FnExactFirstPacking.j2 kj44 t431 t430 (bt437.2.2 != t410)) else (laws_FnExactFirstPacking.j2 kj44 t431 t430 true)) else (laws_FnExactFirstPacking.j2 kj44 t431 t430 true))))) else (some false)))) = some r := H
         have A67 := Aside0.mk A670
         clear A670
         replace H := Option.bind_eq_some_iff.mp H
         obtain ⟨t432, A680, H⟩ := H
         replace H : (if t432 < 0 then (some false) else (if t432 = t430 then ((laws_toTree.f kj44 a0_0 l0_1).bind fun bt433 => ((impl_FirstPacking.f kj44 bt433.1 bt433.2 a1 a2).bind fun bt437 => ((laws_eqSpotS.f kj44 bt437.1 t406).bind fun t442 => (if t442 = true then (if bt437.2.1 = t409 then (laws_FnExactFirstPacking.j2 kj44 t431 t430 (bt437.2.2 != t410)) else (laws_FnExactFirstPacking.j2 kj44 t431 t430 true)) else (laws_FnExactFirstPacking.j2 kj44 t431 t430 true))))) else (some false))) = some r := H
         have A68 := Aside0.mk A680
         clear A680
         by_cases c69 : t432 < 0
         ·rw [if_pos c69] at H
          have c69b0 := decide_eq_true c69
          clear c69
          obtain rfl := Option.some.inj H
          obtain ⟨Ao70, co70, eo70⟩ := Kd.R_slice HO_12.out
          subst eo70
          go_wp2_with (first | ((with_reducible refine gate_callee (f := 20) rfl ?_); refine goesL_ (some 87) rfl rfl Try.func20 (by kernel_rfl) rfl #[.slice Ao70 t416.length co70, .int .i64 1] rfl mp_ ?_; (with_reducible refine (laws_markSpotS.calls kj44 (fun k_ => some k_ = (.slice Ao70 t416.length co70 : Value).ownBlock) (.slice Ao70 t416.length co70) t416 1 t430 t431 w _ ?side1 ?side2 A67.out).mono ?_); (case side1 => repeat (first | (with_reducible first | exact HB.out | apply below_alloc | apply pw_below_drewN | apply below_drew1 | refine below_set ?_ GE400.out | refine below_set ?_ GE415.out) | exact HB.out)); (case side2 => exact Kd.R_tight rfl HO_12.out); rintro e w71 ⟨rfl, hy0, hb, hkp⟩; refine ⟨_, rfl, ?_⟩; have n0_ := Aside0.mk (Kd.R_mono (ok' := fun k_ => some k_ ≠ (.slice Ao70 t416.length co70 : Value).ownBlock) (Kd.R_keptB (HO_8.out) hkp (fun k_ hk_ hs_ => (hk_) hs_)) (fun k_ hk_ => hk_.1)); have n1_ := Aside0.mk (Kd.R_reok rfl hy0 (fun k_ e_ => HO_12.out.1 k_ e_)); have n2_ := Aside0.mk (Kd.R_mono (ok' := fun k_ => True) (Kd.R_keptB ((Kd.R_apart' HO_416001.out (Kd.R_typed HO_12.out) (by decide))) hkp (fun k_ hk_ hs_ => (hk_.2) hs_)) (fun k_ hk_ => trivial)); have n3_ := Aside0.mk (blk_kept (bk_ BK400.out) hkp (fun hs_ => (fun e_ => (Kd.R_ne HO_12.out BK400.out (by decide)) e_) hs_)); have n4_ := Aside0.mk (blk_kept (bk_ BK415.out) hkp (fun hs_ => (fun e_ => (Kd.R_ne HO_12.out BK415.out (by decide)) e_) hs_)); have n5_ := Aside0.mk (hb); clear HO_8; clear HO_12; clear HO_416001; clear BK400; clear BK415; clear HB; have HO_8 := n0_; have HO_12 := n1_; have HO_416001 := n2_; have BK400 := n3_; have BK415 := n4_; have HB := n5_; clear n0_ n1_ n2_ n3_ n4_ n5_; (try clear hb); (try clear hkp); (try clear hy0)) | ((with_reducible refine gate_callee (f := 21) rfl ?_); refine goesL_ (some 90) rfl rfl Try.func21 (by kernel_rfl) rfl #[.slice Ao70 t431.length co70, .int .i64 1] rfl (by (try simp only [List.map_toArray, List.map_cons, List.map_nil]); first | done | (rw [show t431.length = t416.length from (Kd.R_reads' HO_12.out).1.symm] <;> rfl) | rfl | (simp only [List.length_drop, List.length_take]; rfl)) ?_; (with_reducible refine (laws_heldSpotS.calls kj44 _ _ t431 1 t432 _ ?side1 ?side2 A68.out).mono ?_); (case side1 => exact ca_ (Kd.R_reads' HO_12.out).2.2); (case side2 => rw [show t431.length = t416.length from (Kd.R_reads' HO_12.out).1.symm]; exact (Kd.R_reads' HO_12.out).2.1); rintro e w' ⟨rfl, ⟨nd, rfl⟩⟩; refine ⟨_, rfl, ?_⟩))
          go_ret
          exact ⟨re_, bl2_ HB.out GE400.out GE415.out⟩
         ·rw [if_neg c69] at H
          have c69b0 := decide_eq_false c69
          clear c69
          by_cases c72 : t432 = t430
          ·rw [if_pos c72] at H
           have c72b0 : (t432 == t430) = true := beq_iff_eq.mpr c72
           have c72b1 : (t432 != t430) = false := bne_eq_false_iff_eq.mpr c72
           clear c72
           replace H := Option.bind_eq_some_iff.mp H
           obtain ⟨⟨t433, t434⟩, A730, H⟩ := H
           replace H : ((impl_FirstPacking.f kj44 t433 t434 a1 a2).bind fun bt437 => ((laws_eqSpotS.f kj44 bt437.1 t406).bind fun t442 => (if t442 = true then (if bt437.2.1 = t409 then (laws_FnExactFirstPacking.j2 kj44 t431 t430 (bt437.2.2 != t410)) else (laws_FnExactFirstPacking.j2 kj44 t431 t430 true)) else (laws_FnExactFirstPacking.j2 kj44 t431 t430 true)))) = some r := H
           have A73 := Aside0.mk A730
           clear A730
           replace H := Option.bind_eq_some_iff.mp H
           obtain ⟨⟨t437, t440, t441⟩, A740, H⟩ := H
           replace H : ((laws_eqSpotS.f kj44 t437 t406).bind fun t442 => (if t442 = true then (if t440 = t409 then (laws_FnExactFirstPacking.j2 kj44 t431 t430 (t441 != t410)) else (laws_FnExactFirstPacking.j2 kj44 t431 t430 true)) else (laws_FnExactFirstPacking.j2 kj44 t431 t430 true))) = some r := H
           have A74 := Aside0.mk A740
           clear A740
           have HC75 := Aside0.mk H
           clear H
           obtain ⟨Ao76, co76, eo76⟩ := Kd.R_slice HO_12.out
           subst eo76
           go_upto_region 25 with (first | ((with_reducible refine gate_callee (f := 20) rfl ?_); refine goesL_ (some 87) rfl rfl Try.func20 (by kernel_rfl) rfl #[.slice Ao76 t416.length co76, .int .i64 1] rfl mp_ ?_; (with_reducible refine (laws_markSpotS.calls kj44 (fun k_ => some k_ = (.slice Ao76 t416.length co76 : Value).ownBlock) (.slice Ao76 t416.length co76) t416 1 t430 t431 w _ ?side1 ?side2 A67.out).mono ?_); (case side1 => repeat (first | (with_reducible first | exact HB.out | apply below_alloc | apply pw_below_drewN | apply below_drew1 | refine below_set ?_ GE400.out | refine below_set ?_ GE415.out) | exact HB.out)); (case side2 => exact Kd.R_tight rfl HO_12.out); rintro e w77 ⟨rfl, hy0, hb, hkp⟩; refine ⟨_, rfl, ?_⟩; have n0_ := Aside0.mk (Kd.R_mono (ok' := fun k_ => some k_ ≠ (.slice Ao76 t416.length co76 : Value).ownBlock) (Kd.R_keptB (HO_8.out) hkp (fun k_ hk_ hs_ => (hk_) hs_)) (fun k_ hk_ => hk_.1)); have n1_ := Aside0.mk (Kd.R_reok rfl hy0 (fun k_ e_ => HO_12.out.1 k_ e_)); have n2_ := Aside0.mk (Kd.R_mono (ok' := fun k_ => True) (Kd.R_keptB ((Kd.R_apart' HO_416001.out (Kd.R_typed HO_12.out) (by decide))) hkp (fun k_ hk_ hs_ => (hk_.2) hs_)) (fun k_ hk_ => trivial)); have n3_ := Aside0.mk (blk_kept (bk_ BK400.out) hkp (fun hs_ => (fun e_ => (Kd.R_ne HO_12.out BK400.out (by decide)) e_) hs_)); have n4_ := Aside0.mk (blk_kept (bk_ BK415.out) hkp (fun hs_ => (fun e_ => (Kd.R_ne HO_12.out BK415.out (by decide)) e_) hs_)); have n5_ := Aside0.mk (hb); clear HO_8; clear HO_12; clear HO_416001; clear BK400; clear BK415; clear HB; have HO_8 := n0_; have HO_12 := n1_; have HO_416001 := n2_; have BK400 := n3_; have BK415 := n4_; have HB := n5_; clear n0_ n1_ n2_ n3_ n4_ n5_; (try clear hb); (try clear hkp); (try clear hy0)) | ((with_reducible refine gate_callee (f := 21) rfl ?_); refine goesL_ (some 90) rfl rfl Try.func21 (by kernel_rfl) rfl #[.slice Ao76 t431.length co76, .int .i64 1] rfl (by (try simp only [List.map_toArray, List.map_cons, List.map_nil]); first | done | (rw [show t431.length = t416.length from (Kd.R_reads' HO_12.out).1.symm] <;> rfl) | rfl | (simp only [List.length_drop, List.length_take]; rfl)) ?_; (with_reducible refine (laws_heldSpotS.calls kj44 _ _ t431 1 t432 _ ?side1 ?side2 A68.out).mono ?_); (case side1 => exact ca_ (Kd.R_reads' HO_12.out).2.2); (case side2 => rw [show t431.length = t416.length from (Kd.R_reads' HO_12.out).1.symm]; exact (Kd.R_reads' HO_12.out).2.1); rintro e w' ⟨rfl, ⟨nd, rfl⟩⟩; refine ⟨_, rfl, ?_⟩; have hnb78 := NB400_415.out; have hnc78 := NB415_400.out; obtain ⟨hcz79_0, hcz79_1, hfz79_0, hfz79_1⟩ := cz2_ BK400.out) | ((with_reducible refine gate_callee (f := 15) rfl ?_); refine goesL_ (some 98) rfl rfl Try.func15 (by kernel_rfl) rfl #[.agg #[.int .i64 a0_0, .slice A0_1 l0_1.length c0_1]] rfl mp_ ?_; (with_reducible refine (laws_toTree.calls kj44 a0_0 _ _ l0_1 t433 t434 _ ?side1 ?side2 A73.out).mono ?_); (case side1 => exact ca_ (Kd.C_below HR0_1.out (bl2_ HB.out GE400.out GE415.out))); (case side2 => exact HC0_1.out); rintro e w80 ⟨v435, rfl, ho0, hb⟩; refine ⟨_, rfl, ?_⟩; have n0_ := Aside0.mk (Kd.R_below (ra_ HO_8.out) hb); have n1_ := Aside0.mk (Kd.R_below (ra_ HO_12.out) hb); have n2_ := Aside0.mk (Kd.R_elder' (ra_ HO_416001.out) (Kd.R_base ho0) hb); have n3_ := Aside0.mk (Kd.R_lower (Kd.R_new' ho0 (Kd.R_lt (ra_ HO_416001.out))) (below_size (bl2_ HB.out GE400.out GE415.out))); have n4_ := Aside0.mk (blk_below (g := gb400) (o := .cells #[.int .i64 a0_0, .slice A0_1 l0_1.length c0_1] 42 (0, 0)) (bk_ BK400.out) hb); have n5_ := Aside0.mk (blk_below (g := gb415) (o := .cells #[.int .i64 t411, .slice Ao26 t428.length co26] 26 (0, 0)) (bk_ BK415.out) hb); have n6_ := Aside0.mk (below_step (bl2_ HB.out GE400.out GE415.out) hb); clear HO_8; clear HO_12; clear HO_416001; clear BK400; clear BK415; clear HB; have HO_8 := n0_; have HO_12 := n1_; have HO_416001 := n2_; have HO436 := n3_; have BK400 := n4_; have BK415 := n5_; have HB := n6_; clear n0_ n1_ n2_ n3_ n4_ n5_ n6_; (try clear hb); (try clear hb2); (try clear hk); (try clear hi); (try clear ho0); obtain ⟨Ao81, co81, eo81⟩ := Kd.R_slice HO436.out; subst eo81) | ((with_reducible refine gate_callee (f := 9) rfl ?_); refine goesL_ (some 101) rfl rfl Try.func9 (by kernel_rfl) rfl #[.agg #[.int .i64 t433, .slice Ao81 t434.length co81], .int .i64 a1, .int .i64 a2] rfl mp_ ?_; (with_reducible refine (impl_FirstPacking.calls kj44 t433 _ _ t434 a1 a2 t437 t440 t441 _ ?side1 ?side2 A74.out).mono ?_); (case side1 => exact ca_ (Kd.R_reads' HO436.out).2.2); (case side2 => exact (Kd.R_reads' HO436.out).2.1); rintro e w82 ⟨v438, rfl, ho0, hb⟩; refine ⟨_, rfl, ?_⟩; have n0_ := Aside0.mk (Kd.R_elder' (ra_ HO_8.out) (Kd.R_base ho0) hb); have n1_ := Aside0.mk (Kd.R_elder' (ra_ HO_12.out) (Kd.R_base ho0) hb); have n2_ := Aside0.mk (Kd.R_below (ra_ HO_416001.out) hb); have n3_ := Aside0.mk (Kd.R_below (ra_ HO436.out) hb); have n4_ := Aside0.mk (Kd.R_lower (Kd.R_new' (Kd.R_new' ho0 (Kd.R_lt (ra_ HO_8.out))) (Kd.R_lt (ra_ HO_12.out))) (below_size (bl2_ HB.out GE400.out GE415.out))); have n5_ := Aside0.mk (blk_below (g := gb400) (o := .cells #[.int .i64 a0_0, .slice A0_1 l0_1.length c0_1] 42 (0, 0)) (bk_ BK400.out) hb); have n6_ := Aside0.mk (blk_below (g := gb415) (o := .cells #[.int .i64 t411, .slice Ao26 t428.length co26] 26 (0, 0)) (bk_ BK415.out) hb); have n7_ := Aside0.mk (below_step (bl2_ HB.out GE400.out GE415.out) hb); clear HO_8; clear HO_12; clear HO_416001; clear HO436; clear BK400; clear BK415; clear HB; have HO_8 := n0_; have HO_12 := n1_; have HO_416001 := n2_; have HO436 := n3_; have HO439 := n4_; have BK400 := n5_; have BK415 := n6_; have HB := n7_; clear n0_ n1_ n2_ n3_ n4_ n5_ n6_ n7_; (try clear hb); (try clear hb2); (try clear hk); (try clear hi); (try clear ho0)))
           (try simp only [Act.put, List.setIfInBounds_toArray, List.set_cons_zero, List.set_cons_succ])
           go_cut [118] (fun v118 wc => ∃ (kq : Nat) (x118_74 : Bool), v118 = .bool x118_74 ∧ Aside0 (laws_FnExactFirstPacking.j2 kq t431 t430 x118_74 = some r) ∧ Aside0 (kq ≤ kj44) ∧ Aside0 (Kd.R k37 37 wc w.heap.size (fun _ => True) (.slice Ao76 t416.length co76) t431) ∧ Aside0 (Kd.R k75 75 wc w.heap.size (fun _ => True) (.slice Ao26 t428.length co26) t428) ∧ Aside0 (wc.heap[gb400]? = some (.cells #[.int .i64 a0_0, (.slice A0_1 l0_1.length c0_1)] 42 (0, 0))) ∧ Aside0 (wc.heap[gb415]? = some (.cells #[.int .i64 t411, (.slice Ao26 t428.length co26)] 26 (0, 0))) ∧ Aside0 (Below w.heap.size w wc))
           case first =>
            have H := HC75.out
            clear HC75
            replace H := Option.bind_eq_some_iff.mp H
            obtain ⟨t442, A830, H⟩ := H
            replace H : (if t442 = true then (if t440 = t409 then (laws_FnExactFirstPacking.j2 kj44 t431 t430 (t441 != t410)) else (laws_FnExactFirstPacking.j2 kj44 t431 t430 true)) else (laws_FnExactFirstPacking.j2 kj44 t431 t430 true)) = some r := H
            have A83 := Aside0.mk A830
            clear A830
            by_cases c84 : t442 = true
            ·subst c84
             have H1 : (if t440 = t409 then (laws_FnExactFirstPacking.j2 kj44 t431 t430 (t441 != t410)) else (laws_FnExactFirstPacking.j2 kj44 t431 t430 true)) = some r := by rw [if_pos rfl] at H; exact H
             clear H
             have H := H1
             clear H1
             by_cases c85 : t440 = t409
             ·rw [if_pos c85] at H
              have c85b0 : (t440 == t409) = true := beq_iff_eq.mpr c85
              have c85b1 : (t440 != t409) = false := bne_eq_false_iff_eq.mpr c85
              clear c85
              (first | rw [c85b0] | (simp only [i64_w, i32_w]; rw [c85b0]) | skip)
              have H' := Aside0.mk H
              clear H
              obtain ⟨Ao86, co86, eo86⟩ := Kd.R_slice HO439.out
              subst eo86
              obtain ⟨Ao87, co87, eo87⟩ := Kd.R_slice HO_8.out
              subst eo87
              go_wp2_with (first | ((with_reducible refine gate_callee (f := 18) rfl ?_); refine goesL_ (some 107) rfl rfl Try.func18 (by kernel_rfl) rfl #[.slice Ao86 t437.length co86, .slice Ao87 t406.length co87] rfl mp_ ?_; (with_reducible refine (laws_eqSpotS.calls kj44 _ _ t437 _ _ t406 true _ ?side1 ?side2 ?side3 ?side4 A83.out).mono ?_); (case side1 => exact ca_ (Kd.R_reads' HO439.out).2.2); (case side2 => exact (Kd.R_reads' HO439.out).2.1); (case side3 => exact ca_ (Kd.R_reads' HO_8.out).2.2); (case side4 => exact (Kd.R_reads' HO_8.out).2.1); rintro e w88 ⟨rfl, hb⟩; refine ⟨_, rfl, ?_⟩; have n0_ := Aside0.mk (Kd.R_below (ra_ HO_8.out) hb); have n1_ := Aside0.mk (Kd.R_below (ra_ HO_12.out) hb); have n2_ := Aside0.mk (Kd.R_below (ra_ HO_416001.out) hb); have n3_ := Aside0.mk (Kd.R_below (ra_ HO436.out) hb); have n4_ := Aside0.mk (Kd.R_below (ra_ HO439.out) hb); have n5_ := Aside0.mk (blk_below (g := gb400) (o := .cells #[.int .i64 a0_0, .slice A0_1 l0_1.length c0_1] 42 (0, 0)) (bk_ BK400.out) hb); have n6_ := Aside0.mk (blk_below (g := gb415) (o := .cells #[.int .i64 t411, .slice Ao26 t428.length co26] 26 (0, 0)) (bk_ BK415.out) hb); have n7_ := Aside0.mk (below_step (bl2_ HB.out GE400.out GE415.out) hb); clear HO_8; clear HO_12; clear HO_416001; clear HO436; clear HO439; clear BK400; clear BK415; clear HB; have HO_8 := n0_; have HO_12 := n1_; have HO_416001 := n2_; have HO436 := n3_; have HO439 := n4_; have BK400 := n5_; have BK415 := n6_; have HB := n7_; clear n0_ n1_ n2_ n3_ n4_ n5_ n6_ n7_; (try clear hb); (try clear hb2); (try clear hk); (try clear hi)))
              go_meet
              case rel => exact ⟨_, ((t441 != t410)), rs_, H', ⟨by have := HJ12.out; have := HJ44.out; first | omega | exact Nat.le_refl _⟩, ⟨by (try simp only [hl416001_44]); (with_reducible repeat (first | apply Kd.R_alloc | apply Kd.R_drewN | apply Kd.R_drew)); exact Kd.R_mono HO_12.out (fun _ hk => trivial)⟩, ⟨by (try simp only [hl416001_44]); (with_reducible repeat (first | apply Kd.R_alloc | apply Kd.R_drewN | apply Kd.R_drew)); exact Kd.R_mono HO_416001.out (fun _ hk => trivial)⟩, ⟨by (try simp only [hl416001_44]); (with_reducible repeat (first | refine blk_drewN ?_ _ | refine blk_drew ?_ | refine blk_alloc ?_ _)); exact BK400.out⟩, ⟨by (try simp only [hl416001_44]); (with_reducible repeat (first | refine blk_drewN ?_ _ | refine blk_drew ?_ | refine blk_alloc ?_ _)); exact BK415.out⟩, ⟨bl2_ HB.out GE400.out GE415.out⟩⟩
             ·rw [if_neg c85] at H
              have c85b0 : (t440 == t409) = false := beq_eq_false_iff_ne.mpr c85
              have c85b1 : (t440 != t409) = true := bne_iff_ne.mpr c85
              (first | rw [c85b0] | (simp only [i64_w, i32_w]; rw [c85b0]) | skip)
              have H' := Aside0.mk H
              clear H
              obtain ⟨Ao89, co89, eo89⟩ := Kd.R_slice HO439.out
              subst eo89
              obtain ⟨Ao90, co90, eo90⟩ := Kd.R_slice HO_8.out
              subst eo90
              go_wp2_with (first | ((with_reducible refine gate_callee (f := 18) rfl ?_); refine goesL_ (some 107) rfl rfl Try.func18 (by kernel_rfl) rfl #[.slice Ao89 t437.length co89, .slice Ao90 t406.length co90] rfl mp_ ?_; (with_reducible refine (laws_eqSpotS.calls kj44 _ _ t437 _ _ t406 true _ ?side1 ?side2 ?side3 ?side4 A83.out).mono ?_); (case side1 => exact ca_ (Kd.R_reads' HO439.out).2.2); (case side2 => exact (Kd.R_reads' HO439.out).2.1); (case side3 => exact ca_ (Kd.R_reads' HO_8.out).2.2); (case side4 => exact (Kd.R_reads' HO_8.out).2.1); rintro e w91 ⟨rfl, hb⟩; refine ⟨_, rfl, ?_⟩; have n0_ := Aside0.mk (Kd.R_below (ra_ HO_8.out) hb); have n1_ := Aside0.mk (Kd.R_below (ra_ HO_12.out) hb); have n2_ := Aside0.mk (Kd.R_below (ra_ HO_416001.out) hb); have n3_ := Aside0.mk (Kd.R_below (ra_ HO436.out) hb); have n4_ := Aside0.mk (Kd.R_below (ra_ HO439.out) hb); have n5_ := Aside0.mk (blk_below (g := gb400) (o := .cells #[.int .i64 a0_0, .slice A0_1 l0_1.length c0_1] 42 (0, 0)) (bk_ BK400.out) hb); have n6_ := Aside0.mk (blk_below (g := gb415) (o := .cells #[.int .i64 t411, .slice Ao26 t428.length co26] 26 (0, 0)) (bk_ BK415.out) hb); have n7_ := Aside0.mk (below_step (bl2_ HB.out GE400.out GE415.out) hb); clear HO_8; clear HO_12; clear HO_416001; clear HO436; clear HO439; clear BK400; clear BK415; clear HB; have HO_8 := n0_; have HO_12 := n1_; have HO_416001 := n2_; have HO436 := n3_; have HO439 := n4_; have BK400 := n5_; have BK415 := n6_; have HB := n7_; clear n0_ n1_ n2_ n3_ n4_ n5_ n6_ n7_; (try clear hb); (try clear hb2); (try clear hk); (try clear hi)))
              go_meet
              case rel => exact ⟨_, (true), rs_, H', ⟨by have := HJ12.out; have := HJ44.out; first | omega | exact Nat.le_refl _⟩, ⟨by (try simp only [hl416001_44]); (with_reducible repeat (first | apply Kd.R_alloc | apply Kd.R_drewN | apply Kd.R_drew)); exact Kd.R_mono HO_12.out (fun _ hk => trivial)⟩, ⟨by (try simp only [hl416001_44]); (with_reducible repeat (first | apply Kd.R_alloc | apply Kd.R_drewN | apply Kd.R_drew)); exact Kd.R_mono HO_416001.out (fun _ hk => trivial)⟩, ⟨by (try simp only [hl416001_44]); (with_reducible repeat (first | refine blk_drewN ?_ _ | refine blk_drew ?_ | refine blk_alloc ?_ _)); exact BK400.out⟩, ⟨by (try simp only [hl416001_44]); (with_reducible repeat (first | refine blk_drewN ?_ _ | refine blk_drew ?_ | refine blk_alloc ?_ _)); exact BK415.out⟩, ⟨bl2_ HB.out GE400.out GE415.out⟩⟩
            ·replace c84 := Bool.eq_false_iff.mpr c84
             subst c84
             have H1 : (laws_FnExactFirstPacking.j2 kj44 t431 t430 true) = some r := by rw [if_neg (show ¬ (false = true) by decide)] at H; exact H
             clear H
             have H := H1
             clear H1
             have H' := Aside0.mk H
             clear H
             obtain ⟨Ao92, co92, eo92⟩ := Kd.R_slice HO439.out
             subst eo92
             obtain ⟨Ao93, co93, eo93⟩ := Kd.R_slice HO_8.out
             subst eo93
             go_wp2_with (first | ((with_reducible refine gate_callee (f := 18) rfl ?_); refine goesL_ (some 107) rfl rfl Try.func18 (by kernel_rfl) rfl #[.slice Ao92 t437.length co92, .slice Ao93 t406.length co93] rfl mp_ ?_; (with_reducible refine (laws_eqSpotS.calls kj44 _ _ t437 _ _ t406 false _ ?side1 ?side2 ?side3 ?side4 A83.out).mono ?_); (case side1 => exact ca_ (Kd.R_reads' HO439.out).2.2); (case side2 => exact (Kd.R_reads' HO439.out).2.1); (case side3 => exact ca_ (Kd.R_reads' HO_8.out).2.2); (case side4 => exact (Kd.R_reads' HO_8.out).2.1); rintro e w94 ⟨rfl, hb⟩; refine ⟨_, rfl, ?_⟩; have n0_ := Aside0.mk (Kd.R_below (ra_ HO_8.out) hb); have n1_ := Aside0.mk (Kd.R_below (ra_ HO_12.out) hb); have n2_ := Aside0.mk (Kd.R_below (ra_ HO_416001.out) hb); have n3_ := Aside0.mk (Kd.R_below (ra_ HO436.out) hb); have n4_ := Aside0.mk (Kd.R_below (ra_ HO439.out) hb); have n5_ := Aside0.mk (blk_below (g := gb400) (o := .cells #[.int .i64 a0_0, .slice A0_1 l0_1.length c0_1] 42 (0, 0)) (bk_ BK400.out) hb); have n6_ := Aside0.mk (blk_below (g := gb415) (o := .cells #[.int .i64 t411, .slice Ao26 t428.length co26] 26 (0, 0)) (bk_ BK415.out) hb); have n7_ := Aside0.mk (below_step (bl2_ HB.out GE400.out GE415.out) hb); clear HO_8; clear HO_12; clear HO_416001; clear HO436; clear HO439; clear BK400; clear BK415; clear HB; have HO_8 := n0_; have HO_12 := n1_; have HO_416001 := n2_; have HO436 := n3_; have HO439 := n4_; have BK400 := n5_; have BK415 := n6_; have HB := n7_; clear n0_ n1_ n2_ n3_ n4_ n5_ n6_ n7_; (try clear hb); (try clear hb2); (try clear hk); (try clear hi)))
             go_meet
             case rel => exact ⟨_, (true), rs_, H', ⟨by have := HJ12.out; have := HJ44.out; first | omega | exact Nat.le_refl _⟩, ⟨by (try simp only [hl416001_44]); (with_reducible repeat (first | apply Kd.R_alloc | apply Kd.R_drewN | apply Kd.R_drew)); exact Kd.R_mono HO_12.out (fun _ hk => trivial)⟩, ⟨by (try simp only [hl416001_44]); (with_reducible repeat (first | apply Kd.R_alloc | apply Kd.R_drewN | apply Kd.R_drew)); exact Kd.R_mono HO_416001.out (fun _ hk => trivial)⟩, ⟨by (try simp only [hl416001_44]); (with_reducible repeat (first | refine blk_drewN ?_ _ | refine blk_drew ?_ | refine blk_alloc ?_ _)); exact BK400.out⟩, ⟨by (try simp only [hl416001_44]); (with_reducible repeat (first | refine blk_drewN ?_ _ | refine blk_drew ?_ | refine blk_alloc ?_ _)); exact BK415.out⟩, ⟨bl2_ HB.out GE400.out GE415.out⟩⟩
           case rest =>
            clear HC75
            try clear c1
            try clear c2
            try clear p2
            try clear c3
            try clear c4
            try clear c5
            try clear c5b0
            try clear c6
            try clear c7
            try clear c8
            try clear c9
            try clear c13
            try clear c15
            try clear c16
            try clear c17
            try clear c18
            try clear c19
            try clear c20
            try clear c21
            try clear c24
            try clear c29
            try clear c30
            try clear c30b0
            try clear c30b1
            try clear c40
            try clear c43
            try clear c50
            try clear c53
            try clear c53b0
            try clear c55
            try clear c56
            try clear c56b0
            try clear c56b1
            try clear c66
            try clear c69
            try clear c69b0
            try clear c72
            try clear c72b0
            try clear c72b1
            try clear c78
            try clear c84
            try clear c85
            try clear c85b0
            try clear c85b1
            try clear hcz15_0
            try clear hcz15_1
            try clear hcz17_0
            try clear hcz17_1
            try clear hcz21_0
            try clear hcz21_1
            try clear hcz25_0
            try clear hcz25_1
            try clear hcz51_0
            try clear hcz51_1
            try clear hcz79_0
            try clear hcz79_1
            try clear hcz7_0
            try clear hcz7_1
            try clear hfz15_0
            try clear hfz15_1
            try clear hfz17_0
            try clear hfz17_1
            try clear hfz21_0
            try clear hfz21_1
            try clear hfz25_0
            try clear hfz25_1
            try clear hfz51_0
            try clear hfz51_1
            try clear hfz79_0
            try clear hfz79_1
            try clear hfz7_0
            try clear hfz7_1
            try clear p2
            obtain ⟨kq, x118_74, rfl, HA, HJ74, HO_12, HO_416001, BK400, BK415, HB⟩ := hcut
            have hl12_74 := (Kd.R_reads' HO_12.out).1
            rw [hl12_74] at HO_12
            (try simp only [hl12_74])
            (try simp only [hl12_74] at BK400)
            (try simp only [hl12_74] at BK415)
            (try simp only [hl12_74] at HO_416001)
            cases kq with
            | zero => exact absurd HA.out (by simp [laws_FnExactFirstPacking.j2])
            | succ kj74 =>
             have H := HA.out
             clear HA
             simp only [laws_FnExactFirstPacking.j2] at H
             by_cases c95 : x118_74 = true
             ·subst c95
              have H1 : (some false) = some r := by rw [if_pos rfl] at H; exact H
              clear H
              have H := H1
              clear H1
              obtain rfl := Option.some.inj H
              go_wp2
              go_ret
              exact ⟨re_, bl2_ HB.out GE400.out GE415.out⟩
             ·replace c95 := Bool.eq_false_iff.mpr c95
              subst c95
              have H1 : ((laws_heldSpotS.f kj74 t431 1).bind fun t443 => (if t443 < 0 then (some false) else (if t443 = t430 then (some true) else (some false)))) = some r := by rw [if_neg (show ¬ (false = true) by decide)] at H; exact H
              clear H
              have H := H1
              clear H1
              replace H := Option.bind_eq_some_iff.mp H
              obtain ⟨t443, A960, H⟩ := H
              replace H : (if t443 < 0 then (some false) else (if t443 = t430 then (some true) else (some false))) = some r := H
              have A96 := Aside0.mk A960
              clear A960
              by_cases c97 : t443 < 0
              ·rw [if_pos c97] at H
               have c97b0 := decide_eq_true c97
               clear c97
               obtain rfl := Option.some.inj H
               go_wp2_with (first | ((with_reducible refine gate_callee (f := 21) rfl ?_); refine goesL_ (some 121) rfl rfl Try.func21 (by kernel_rfl) rfl #[.slice Ao76 t431.length co76, .int .i64 1] rfl mp_ ?_; (with_reducible refine (laws_heldSpotS.calls kj74 _ _ t431 1 t443 _ ?side1 ?side2 A96.out).mono ?_); (case side1 => exact ca_ (Kd.R_reads' HO_12.out).2.2); (case side2 => exact (Kd.R_reads' HO_12.out).2.1); rintro e w' ⟨rfl, ⟨nd, rfl⟩⟩; refine ⟨_, rfl, ?_⟩))
               go_ret
               exact ⟨re_, bl2_ HB.out GE400.out GE415.out⟩
              ·rw [if_neg c97] at H
               have c97b0 := decide_eq_false c97
               clear c97
               by_cases c98 : t443 = t430
               ·rw [if_pos c98] at H
                have c98b0 : (t443 == t430) = true := beq_iff_eq.mpr c98
                have c98b1 : (t443 != t430) = false := bne_eq_false_iff_eq.mpr c98
                clear c98
                obtain rfl := Option.some.inj H
                go_wp2_with (first | ((with_reducible refine gate_callee (f := 21) rfl ?_); refine goesL_ (some 121) rfl rfl Try.func21 (by kernel_rfl) rfl #[.slice Ao76 t431.length co76, .int .i64 1] rfl mp_ ?_; (with_reducible refine (laws_heldSpotS.calls kj74 _ _ t431 1 t443 _ ?side1 ?side2 A96.out).mono ?_); (case side1 => exact ca_ (Kd.R_reads' HO_12.out).2.2); (case side2 => exact (Kd.R_reads' HO_12.out).2.1); rintro e w' ⟨rfl, ⟨nd, rfl⟩⟩; refine ⟨_, rfl, ?_⟩))
                go_ret
                exact ⟨re_, bl2_ HB.out GE400.out GE415.out⟩
               ·rw [if_neg c98] at H
                have c98b0 : (t443 == t430) = false := beq_eq_false_iff_ne.mpr c98
                have c98b1 : (t443 != t430) = true := bne_iff_ne.mpr c98
                obtain rfl := Option.some.inj H
                go_wp2_with (first | ((with_reducible refine gate_callee (f := 21) rfl ?_); refine goesL_ (some 121) rfl rfl Try.func21 (by kernel_rfl) rfl #[.slice Ao76 t431.length co76, .int .i64 1] rfl mp_ ?_; (with_reducible refine (laws_heldSpotS.calls kj74 _ _ t431 1 t443 _ ?side1 ?side2 A96.out).mono ?_); (case side1 => exact ca_ (Kd.R_reads' HO_12.out).2.2); (case side2 => exact (Kd.R_reads' HO_12.out).2.1); rintro e w' ⟨rfl, ⟨nd, rfl⟩⟩; refine ⟨_, rfl, ?_⟩))
                go_ret
                exact ⟨re_, bl2_ HB.out GE400.out GE415.out⟩
          ·rw [if_neg c72] at H
           have c72b0 : (t432 == t430) = false := beq_eq_false_iff_ne.mpr c72
           have c72b1 : (t432 != t430) = true := bne_iff_ne.mpr c72
           obtain rfl := Option.some.inj H
           obtain ⟨Ao99, co99, eo99⟩ := Kd.R_slice HO_12.out
           subst eo99
           go_wp2_with (first | ((with_reducible refine gate_callee (f := 20) rfl ?_); refine goesL_ (some 87) rfl rfl Try.func20 (by kernel_rfl) rfl #[.slice Ao99 t416.length co99, .int .i64 1] rfl mp_ ?_; (with_reducible refine (laws_markSpotS.calls kj44 (fun k_ => some k_ = (.slice Ao99 t416.length co99 : Value).ownBlock) (.slice Ao99 t416.length co99) t416 1 t430 t431 w _ ?side1 ?side2 A67.out).mono ?_); (case side1 => repeat (first | (with_reducible first | exact HB.out | apply below_alloc | apply pw_below_drewN | apply below_drew1 | refine below_set ?_ GE400.out | refine below_set ?_ GE415.out) | exact HB.out)); (case side2 => exact Kd.R_tight rfl HO_12.out); rintro e w100 ⟨rfl, hy0, hb, hkp⟩; refine ⟨_, rfl, ?_⟩; have n0_ := Aside0.mk (Kd.R_mono (ok' := fun k_ => some k_ ≠ (.slice Ao99 t416.length co99 : Value).ownBlock) (Kd.R_keptB (HO_8.out) hkp (fun k_ hk_ hs_ => (hk_) hs_)) (fun k_ hk_ => hk_.1)); have n1_ := Aside0.mk (Kd.R_reok rfl hy0 (fun k_ e_ => HO_12.out.1 k_ e_)); have n2_ := Aside0.mk (Kd.R_mono (ok' := fun k_ => True) (Kd.R_keptB ((Kd.R_apart' HO_416001.out (Kd.R_typed HO_12.out) (by decide))) hkp (fun k_ hk_ hs_ => (hk_.2) hs_)) (fun k_ hk_ => trivial)); have n3_ := Aside0.mk (blk_kept (bk_ BK400.out) hkp (fun hs_ => (fun e_ => (Kd.R_ne HO_12.out BK400.out (by decide)) e_) hs_)); have n4_ := Aside0.mk (blk_kept (bk_ BK415.out) hkp (fun hs_ => (fun e_ => (Kd.R_ne HO_12.out BK415.out (by decide)) e_) hs_)); have n5_ := Aside0.mk (hb); clear HO_8; clear HO_12; clear HO_416001; clear BK400; clear BK415; clear HB; have HO_8 := n0_; have HO_12 := n1_; have HO_416001 := n2_; have BK400 := n3_; have BK415 := n4_; have HB := n5_; clear n0_ n1_ n2_ n3_ n4_ n5_; (try clear hb); (try clear hkp); (try clear hy0)) | ((with_reducible refine gate_callee (f := 21) rfl ?_); refine goesL_ (some 90) rfl rfl Try.func21 (by kernel_rfl) rfl #[.slice Ao99 t431.length co99, .int .i64 1] rfl (by (try simp only [List.map_toArray, List.map_cons, List.map_nil]); first | done | (rw [show t431.length = t416.length from (Kd.R_reads' HO_12.out).1.symm] <;> rfl) | rfl | (simp only [List.length_drop, List.length_take]; rfl)) ?_; (with_reducible refine (laws_heldSpotS.calls kj44 _ _ t431 1 t432 _ ?side1 ?side2 A68.out).mono ?_); (case side1 => exact ca_ (Kd.R_reads' HO_12.out).2.2); (case side2 => rw [show t431.length = t416.length from (Kd.R_reads' HO_12.out).1.symm]; exact (Kd.R_reads' HO_12.out).2.1); rintro e w' ⟨rfl, ⟨nd, rfl⟩⟩; refine ⟨_, rfl, ?_⟩))
           go_ret
           exact ⟨re_, bl2_ HB.out GE400.out GE415.out⟩
     ·replace c43 := Bool.eq_false_iff.mpr c43
      subst c43
      have H1 : (some false) = some r := by rw [if_neg (show ¬ (false = true) by decide)] at H; exact H
      clear H
      have H := H1
      clear H1
      obtain rfl := Option.some.inj H
      try go_wp2
      have n0_ := Aside0.mk (Kd.R_drew HO_8.out)
      have n1_ := Aside0.mk (Kd.R_drew HO_12.out)
      have n2_ := Aside0.mk (Kd.R_drew HO_416001.out)
      have n3_ := Aside0.mk (blk_drew BK400.out)
      have n4_ := Aside0.mk (blk_drew BK415.out)
      have n5_ := Aside0.mk (below_drew1 HB.out)
      clear HO_8
      clear HO_12
      clear HO_416001
      clear BK400
      clear BK415
      clear HB
      have HO_8 := n0_
      have HO_12 := n1_
      have HO_416001 := n2_
      have BK400 := n3_
      have BK415 := n4_
      have HB := n5_
      clear n0_ n1_ n2_ n3_ n4_ n5_
      refine start_ (n := 5) (S := fun w' => w'.cell? ⟨gb415, 0, none⟩ = some (.int .i64 t411) ∧ w'.cell? ⟨gb415, 1, none⟩ = some (.slice Ao26 t412.length co26) ∧ w'.cell? ⟨gb400, 0, none⟩ = some (.int .i64 a0_0) ∧ w'.cell? ⟨gb400, 1, none⟩ = some (.slice A0_1 l0_1.length c0_1)) (ds := []) #[false,false,false,false,false] (by kernel_rfl) rfl rfl ⟨(blk_cell BK415.out 0).trans rfl, (blk_cell BK415.out 1).trans rfl, (blk_cell BK400.out 0).trans rfl, (blk_cell BK400.out 1).trans rfl⟩ (fun hHeld => ?_)
      generalize wc.drew = w101 at HO_8 HO_12 HO_416001 BK400 BK415 HB hHeld ⊢
      refine tkz_ 0 (some 59) #[true,false,false,false,false] rfl rfl (by kernel_rfl) hHeld ?_
      refine tkz_ 1 (some 60) #[true,true,false,false,false] rfl rfl (by kernel_rfl) hHeld ?_
      refine one_ (i := 2) (N := some 61) #[true,true,true,false,false] rfl rfl (by kernel_rfl) (by decide) (fun K hK => ?_)
      refine goes_ Try.func15 (by kernel_rfl) rfl #[.agg #[.int .i64 a0_0, .slice A0_1 l0_1.length c0_1]] (by rfl) rfl rfl mp_ ?_
      with_reducible refine (laws_toTree.calls kj12 a0_0 _ _ l0_1 t422 t423 _ ?side1 ?side2 A41.out).mono ?_
      (case side1 => exact ca_ (Kd.C_below HR0_1.out HB.out))
      (case side2 => exact HC0_1.out)
      rintro e w102 ⟨v424, rfl, ho0, hb⟩
      refine ⟨_, rfl, ?_⟩
      have n0_ := Aside0.mk (Kd.R_below (ra_ HO_8.out) hb)
      have n1_ := Aside0.mk (Kd.R_below (ra_ HO_12.out) hb)
      have n2_ := Aside0.mk (Kd.R_elder' (ra_ HO_416001.out) (Kd.R_base ho0) hb)
      have n3_ := Aside0.mk (Kd.R_lower (Kd.R_new' ho0 (Kd.R_lt (ra_ HO_416001.out))) (below_size (bl2_ HB.out GE400.out GE415.out)))
      have n4_ := Aside0.mk (blk_below (g := gb400) (o := .cells #[.int .i64 a0_0, .slice A0_1 l0_1.length c0_1] 42 (0, 0)) (bk_ BK400.out) hb)
      have n5_ := Aside0.mk (blk_below (g := gb415) (o := .cells #[.int .i64 t411, .slice Ao26 t412.length co26] 26 (0, 0)) (bk_ BK415.out) hb)
      have n6_ := Aside0.mk (below_step (bl2_ HB.out GE400.out GE415.out) hb)
      clear HO_8
      clear HO_12
      clear HO_416001
      clear BK400
      clear BK415
      clear HB
      have HO_8 := n0_
      have HO_12 := n1_
      have HO_416001 := n2_
      have HO425 := n3_
      have BK400 := n4_
      have BK415 := n5_
      have HB := n6_
      clear n0_ n1_ n2_ n3_ n4_ n5_ n6_
      (try clear hb)
      (try clear hb2)
      (try clear hk)
      (try clear hi)
      (try clear ho0)
      obtain ⟨Ao103, co103, eo103⟩ := Kd.R_slice HO425.out
      (first | subst eo103 | (injection eo103 with f1_ f2_ f3_; have f4_ := f1_.symm; have f5_ := f3_.symm; clear f1_ f2_ f3_; subst f4_; subst f5_))
      refine hK.out _ _ ⟨(blk_cell BK415.out 0).trans rfl, (blk_cell BK415.out 1).trans rfl, (blk_cell BK400.out 0).trans rfl, (blk_cell BK400.out 1).trans rfl⟩ (fun hHeld => ?_)
      clear hK K
      refine norm_ (a' := ?_) ?_ ?_
      rotate_left
      ·show Act.put _ (some 61) _ = _
       simp only [Act.put, List.setIfInBounds_toArray, List.set_cons_zero, List.set_cons_succ, i64_w, i32_w]
       rfl
      refine one_ (i := 3) (N := some 62) #[true,true,true,true,false] rfl rfl (by kernel_rfl) (by decide) (fun K hK => ?_)
      refine goes_ Try.func16 (by kernel_rfl) rfl #[.agg #[.int .i64 t411, .slice Ao26 t412.length co26], .agg #[.int .i64 t422, .slice Ao103 t423.length co103]] (by rfl) rfl rfl mp_ ?_
      with_reducible refine (laws_eqTree.calls kj12 t411 _ _ t412 t422 _ _ t423 false _ ?side1 ?side2 ?side3 ?side4 A42.out).mono ?_
      (case side1 => exact ca_ (Kd.R_reads' HO_416001.out).2.2)
      (case side2 => exact (Kd.R_reads' HO_416001.out).2.1)
      (case side3 => exact ca_ (Kd.R_reads' HO425.out).2.2)
      (case side4 => exact (Kd.R_reads' HO425.out).2.1)
      rintro e w104 ⟨rfl, hb⟩
      refine ⟨_, rfl, ?_⟩
      have n0_ := Aside0.mk (Kd.R_below (ra_ HO_8.out) hb)
      have n1_ := Aside0.mk (Kd.R_below (ra_ HO_12.out) hb)
      have n2_ := Aside0.mk (Kd.R_below (ra_ HO_416001.out) hb)
      have n3_ := Aside0.mk (Kd.R_below (ra_ HO425.out) hb)
      have n4_ := Aside0.mk (blk_below (g := gb400) (o := .cells #[.int .i64 a0_0, .slice A0_1 l0_1.length c0_1] 42 (0, 0)) (bk_ BK400.out) hb)
      have n5_ := Aside0.mk (blk_below (g := gb415) (o := .cells #[.int .i64 t411, .slice Ao26 t412.length co26] 26 (0, 0)) (bk_ BK415.out) hb)
      have n6_ := Aside0.mk (below_step (bl2_ HB.out GE400.out GE415.out) hb)
      clear HO_8
      clear HO_12
      clear HO_416001
      clear HO425
      clear BK400
      clear BK415
      clear HB
      have HO_8 := n0_
      have HO_12 := n1_
      have HO_416001 := n2_
      have HO425 := n3_
      have BK400 := n4_
      have BK415 := n5_
      have HB := n6_
      clear n0_ n1_ n2_ n3_ n4_ n5_ n6_
      (try clear hb)
      (try clear hb2)
      (try clear hk)
      (try clear hi)
      refine hK.out _ _ ⟨(blk_cell BK415.out 0).trans rfl, (blk_cell BK415.out 1).trans rfl, (blk_cell BK400.out 0).trans rfl, (blk_cell BK400.out 1).trans rfl⟩ (fun hHeld => ?_)
      clear hK K
      refine norm_ (a' := ?_) ?_ ?_
      rotate_left
      ·show Act.put _ (some 62) _ = _
       simp only [Act.put, List.setIfInBounds_toArray, List.set_cons_zero, List.set_cons_succ, i64_w, i32_w]
       rfl
      refine puz_ 4 (some 63) #[true,true,true,true,true] rfl rfl (by kernel_rfl) ?_
      refine done_ (by kernel_rfl) ?_
      try go_wp2
      go_ret
      exact ⟨re_, bl2_ HB.out GE400.out GE415.out⟩

end Go.Proofs.Ytmckbecegiegaaa.A
