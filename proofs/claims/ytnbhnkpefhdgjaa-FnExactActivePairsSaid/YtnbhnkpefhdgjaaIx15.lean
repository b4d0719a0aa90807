/- For functions of the translation: a Lean function each, and that the call of the Go function comes to its answer. Written by this session's own program (myprint.py, over the kit's printer). -/
import Derived.Test.YtnbhnkpefhdgjaaIx0
import Derived.Test.YtnbhnkpefhdgjaaIx1
import Derived.Test.YtnbhnkpefhdgjaaIx2
import Derived.Test.YtnbhnkpefhdgjaaIx8
import Derived.Test.YtnbhnkpefhdgjaaIx13
import Derived.Test.YtnbhnkpefhdgjaaIx14
--compacted
namespace Go.Proofs.Ytnbhnkpefhdgjaa.I
open Go.RowKit Go.Proofs.YtnbhnkpefhdgjaaW.PrintWords Go.Proofs.YtnbhnkpefhdgjaaW.PrintLast Go.Proofs.YtnbhnkpefhdgjaaW.PrintMore
attribute [local go_sem] max2_int min2_int max_two min_two max_three min_three max_four min_four   -- for this text's walks alone
set_option linter.unusedVariables false
set_option linter.unusedSimpArgs false

/-! ### laws_FnExactActivePairs: function 12 -/
mutual
def laws_FnExactActivePairs.j0 : Nat → Int → List (S91) → List (S97) → Int → List (S68) → List (S97) → Int → Bool → Int → List (S104) → Int → List (S71) → Option (Bool)
 | 0, _, _, _, _, _, _, _, _, _, _, _, _ => none
 | k + 1, x1, x2, x8, x9, x11, x12, x13, x57, x418000, x418001, x436000, x436001 => if x57 = true then (some false) else ((laws_toTree.f k x418000 x418001).bind fun bt444 => ((laws_eqTree.f k x436000 x436001 bt444.1 bt444.2).bind fun t448 => (if t448 = true then ((laws_toSpotS.f k x2).bind fun t449 => ((laws_eqSpotS.f k x11 t449).bind fun t452 => (if t452 = true then ((laws_markTree.f k x436000 x436001 1).bind fun bt453 => ((laws_markSpotS.f k x11 bt453.1).bind fun bt455 => (if bt455.1 < 0 then (laws_FnExactActivePairs.j1 k x1 x2 x8 x9 x12 true x418000 x418001) else ((laws_eqPairS.f k x12 x8).bind fun t457 => (if t457 = true then (laws_FnExactActivePairs.j1 k x1 x2 x8 x9 x12 (x13 != x9) x418000 x418001) else (laws_FnExactActivePairs.j1 k x1 x2 x8 x9 x12 true x418000 x418001)))))) else (some false)))) else (some false))))
def laws_FnExactActivePairs.j1 : Nat → Int → List (S91) → List (S97) → Int → List (S97) → Bool → Int → List (S104) → Option (Bool)
 | 0, _, _, _, _, _, _, _, _ => none
 | k + 1, x1, x2, x8, x9, x12, x86, x418000, x418001 => if x86 = true then (some false) else ((laws_markPairS.f k x12 1).bind fun bt458 => ((laws_heldPairS.f k bt458.2 1).bind fun t460 => (if t460 < 0 then (some false) else (if t460 = bt458.1 then ((laws_toTree.f k x418000 x418001).bind fun bt461 => ((laws_toSpotS.f k x2).bind fun t465 => ((impl_ActivePairs.f k bt461.1 bt461.2 x1 t465).bind fun bt468 => ((laws_eqPairS.f k bt468.1 x8).bind fun t472 => (if t472 = true then (laws_FnExactActivePairs.j2 k bt458.2 bt458.1 (bt468.2 != x9)) else (laws_FnExactActivePairs.j2 k bt458.2 bt458.1 true)))))) else (some false)))))
def laws_FnExactActivePairs.j2 : Nat → List (S97) → Int → Bool → Option (Bool)
 | 0, _, _, _ => none
 | k + 1, x12, x15, x115 => if x115 = true then (some false) else ((laws_heldPairS.f k x12 1).bind fun t473 => (if t473 < 0 then (some false) else (if t473 = x15 then (some true) else (some false))))
end
def laws_FnExactActivePairs.f (k : Nat) (a0_0 : Int) (l0_1 : List (S104)) (a1 : Int) (l2 : List (S91)) : Option (Bool) := (laws_szTree.f a0_0 l0_1 1048576).bind fun t418 => (if t418 < 0 then (some true) else ((laws_szSpotS.f l2 t418).bind fun t419 => (if t419 < 0 then (some true) else ((laws_toTree.f k a0_0 l0_1).bind fun bt420 => ((laws_toSpotS.f k l2).bind fun t424 => ((spec_ActivePairs.f k bt420.1 bt420.2 a1 t424).bind fun bt427 => ((laws_toTree.f k a0_0 l0_1).bind fun bt431 => ((laws_toSpotS.f k l2).bind fun t436 => ((impl_ActivePairs.f k bt431.1 bt431.2 a1 t436).bind fun bt439 => ((laws_eqPairS.f k bt439.1 bt427.1).bind fun t443 => (if t443 = true then (laws_FnExactActivePairs.j0 k a1 l2 bt427.1 bt427.2 t436 bt439.1 bt439.2 (bt439.2 != bt427.2) a0_0 l0_1 bt431.1 bt431.2) else (laws_FnExactActivePairs.j0 k a1 l2 bt427.1 bt427.2 t436 bt439.1 bt439.2 true a0_0 l0_1 bt431.1 bt431.2))))))))))))
theorem laws_FnExactActivePairs.mono_l : ∀ k, (∀ y0 y1 y2 y3 y4 y5 y6 y7 y8 y9 y10 y11, LeO (laws_FnExactActivePairs.j0 k y0 y1 y2 y3 y4 y5 y6 y7 y8 y9 y10 y11) (laws_FnExactActivePairs.j0 (k + 1) y0 y1 y2 y3 y4 y5 y6 y7 y8 y9 y10 y11)) ∧ (∀ y0 y1 y2 y3 y4 y5 y6 y7, LeO (laws_FnExactActivePairs.j1 k y0 y1 y2 y3 y4 y5 y6 y7) (laws_FnExactActivePairs.j1 (k + 1) y0 y1 y2 y3 y4 y5 y6 y7)) ∧ (∀ y0 y1 y2, LeO (laws_FnExactActivePairs.j2 k y0 y1 y2) (laws_FnExactActivePairs.j2 (k + 1) y0 y1 y2))
 | 0 => ⟨fun _ _ _ _ _ _ _ _ _ _ _ _ r h => by simp [laws_FnExactActivePairs.j0] at h, fun _ _ _ _ _ _ _ _ r h => by simp [laws_FnExactActivePairs.j1] at h, fun _ _ _ r h => by simp [laws_FnExactActivePairs.j2] at h⟩
 | k + 1 => by
  obtain ⟨ih0, ih1, ih2⟩ := laws_FnExactActivePairs.mono_l k
  refine ⟨?_, ?_, ?_⟩
  ·intro y0 y1 y2 y3 y4 y5 y6 y7 y8 y9 y10 y11
   unfold laws_FnExactActivePairs.j0
   repeat' first
   | (with_reducible exact ih0 _ _ _ _ _ _ _ _ _ _ _ _)
   | (with_reducible exact ih1 _ _ _ _ _ _ _ _)
   | (with_reducible exact ih2 _ _ _)
   | (with_reducible exact impl_ActivePairs.mono _ _ _ _ _)
   | (with_reducible exact laws_eqPairS.mono _ _ _)
   | (with_reducible exact laws_eqSpotS.mono _ _ _)
   | (with_reducible exact laws_eqTree.mono _ _ _ _ _)
   | (with_reducible exact laws_heldPairS.mono _ _ _)
   | (with_reducible exact laws_markPairS.mono _ _ _)
   | (with_reducible exact laws_markSpotS.mono _ _ _)
   | (with_reducible exact laws_markTree.mono _ _ _ _)
   | (with_reducible exact laws_toSpotS.mono _ _)
   | (with_reducible exact laws_toTree.mono _ _ _)
   | (with_reducible exact spec_ActivePairs.mono _ _ _ _ _)
   | (with_reducible exact LeO.refl _)
   | (with_reducible exact LeO.none _)
   | (with_reducible refine LeO.ite ?_ ?_)
   | (with_reducible refine LeO.bind ?_ (fun _ => ?_))
   | exact impl_ActivePairs.mono _ _ _ _ _
   | exact laws_eqPairS.mono _ _ _
   | exact laws_eqSpotS.mono _ _ _
   | exact laws_eqTree.mono _ _ _ _ _
   | exact laws_heldPairS.mono _ _ _
   | exact laws_markPairS.mono _ _ _
   | exact laws_markSpotS.mono _ _ _
   | exact laws_markTree.mono _ _ _ _
   | exact laws_toSpotS.mono _ _
   | exact laws_toTree.mono _ _ _
   | exact spec_ActivePairs.mono _ _ _ _ _
   | exact LeO.none _
   | refine LeO.ite ?_ ?_
   | refine LeO.bind ?_ (fun _ => ?_)
  ·intro y0 y1 y2 y3 y4 y5 y6 y7
   unfold laws_FnExactActivePairs.j1
   repeat' first
   | (with_reducible exact ih0 _ _ _ _ _ _ _ _ _ _ _ _)
   | (with_reducible exact ih1 _ _ _ _ _ _ _ _)
   | (with_reducible exact ih2 _ _ _)
   | (with_reducible exact impl_ActivePairs.mono _ _ _ _ _)
   | (with_reducible exact laws_eqPairS.mono _ _ _)
   | (with_reducible exact laws_eqSpotS.mono _ _ _)
   | (with_reducible exact laws_eqTree.mono _ _ _ _ _)
   | (with_reducible exact laws_heldPairS.mono _ _ _)
   | (with_reducible exact laws_markPairS.mono _ _ _)
   | (with_reducible exact laws_markSpotS.mono _ _ _)
   | (with_reducible exact laws_markTree.mono _ _ _ _)
   | (with_reducible exact laws_toSpotS.mono _ _)
   | (with_reducible exact laws_toTree.mono _ _ _)
   | (with_reducible exact spec_ActivePairs.mono _ _ _ _ _)
   | (with_reducible exact LeO.refl _)
   | (with_reducible exact LeO.none _)
   | (with_reducible refine LeO.ite ?_ ?_)
   | (with_reducible refine LeO.bind ?_ (fun _ => ?_))
   | exact impl_ActivePairs.mono _ _ _ _ _
   | exact laws_eqPairS.mono _ _ _
   | exact laws_eqSpotS.mono _ _ _
   | exact laws_eqTree.mono _ _ _ _ _
   | exact laws_heldPairS.mono _ _ _
   | exact laws_markPairS.mono _ _ _
   | exact laws_markSpotS.mono _ _ _
   | exact laws_markTree.mono _ _ _ _
   | exact laws_toSpotS.mono _ _
   | exact laws_toTree.mono _ _ _
   | exact spec_ActivePairs.mono _ _ _ _ _
   | exact LeO.none _
   | refine LeO.ite ?_ ?_
   | refine LeO.bind ?_ (fun _ => ?_)
  ·intro y0 y1 y2
   unfold laws_FnExactActivePairs.j2
   repeat' first
   | (with_reducible exact ih0 _ _ _ _ _ _ _ _ _ _ _ _)
   | (with_reducible exact ih1 _ _ _ _ _ _ _ _)
   | (with_reducible exact ih2 _ _ _)
   | (with_reducible exact impl_ActivePairs.mono _ _ _ _ _)
   | (with_reducible exact laws_eqPairS.mono _ _ _)
   | (with_reducible exact laws_eqSpotS.mono _ _ _)
   | (with_reducible exact laws_eqTree.mono _ _ _ _ _)
   | (with_reducible exact laws_heldPairS.mono _ _ _)
   | (with_reducible exact laws_markPairS.mono _ _ _)
   | (with_reducible exact laws_markSpotS.mono _ _ _)
   | (with_reducible exact laws_markTree.mono _ _ _ _)
   | (with_reducible exact laws_toSpotS.mono _ _)
   | (with_reducible exact laws_toTree.mono _ _ _)
   | (with_reducible exact spec_ActivePairs.mono _ _ _ _ _)
   | (with_reducible exact LeO.refl _)
   | (with_reducible exact LeO.none _)
   | (with_reducible refine LeO.ite ?_ ?_)
   | (with_reducible refine LeO.bind ?_ (fun _ => ?_))
   | exact impl_ActivePairs.mono _ _ _ _ _
   | exact laws_eqPairS.mono _ _ _
   | exact laws_eqSpotS.mono _ _ _
   | exact laws_eqTree.mono _ _ _ _ _
   | exact laws_heldPairS.mono _ _ _
   | exact laws_markPairS.mono _ _ _
   | exact laws_markSpotS.mono _ _ _
   | exact laws_markTree.mono _ _ _ _
   | exact laws_toSpotS.mono _ _
   | exact laws_toTree.mono _ _ _
   | exact spec_ActivePairs.mono _ _ _ _ _
   | exact LeO.none _
   | refine LeO.ite ?_ ?_
   | refine LeO.bind ?_ (fun _ => ?_)
theorem laws_FnExactActivePairs.mono : ∀ a0 a1 a2 a3 k, LeO (laws_FnExactActivePairs.f k a0 a1 a2 a3) (laws_FnExactActivePairs.f (k + 1) a0 a1 a2 a3) := by
 intro a0 a1 a2 a3 k
 obtain ⟨ih0, ih1, ih2⟩ := laws_FnExactActivePairs.mono_l k
 unfold laws_FnExactActivePairs.f
 repeat' first
   | (with_reducible exact ih0 _ _ _ _ _ _ _ _ _ _ _ _)
   | (with_reducible exact ih1 _ _ _ _ _ _ _ _)
   | (with_reducible exact ih2 _ _ _)
   | (with_reducible exact impl_ActivePairs.mono _ _ _ _ _)
   | (with_reducible exact laws_eqPairS.mono _ _ _)
   | (with_reducible exact laws_eqSpotS.mono _ _ _)
   | (with_reducible exact laws_eqTree.mono _ _ _ _ _)
   | (with_reducible exact laws_heldPairS.mono _ _ _)
   | (with_reducible exact laws_markPairS.mono _ _ _)
   | (with_reducible exact laws_markSpotS.mono _ _ _)
   | (with_reducible exact laws_markTree.mono _ _ _ _)
   | (with_reducible exact laws_toSpotS.mono _ _)
   | (with_reducible exact laws_toTree.mono _ _ _)
   | (with_reducible exact spec_ActivePairs.mono _ _ _ _ _)
   | (with_reducible exact LeO.refl _)
   | (with_reducible exact LeO.none _)
   | (with_reducible refine LeO.ite ?_ ?_)
   | (with_reducible refine LeO.bind ?_ (fun _ => ?_))
   | exact impl_ActivePairs.mono _ _ _ _ _
   | exact laws_eqPairS.mono _ _ _
   | exact laws_eqSpotS.mono _ _ _
   | exact laws_eqTree.mono _ _ _ _ _
   | exact laws_heldPairS.mono _ _ _
   | exact laws_markPairS.mono _ _ _
   | exact laws_markSpotS.mono _ _ _
   | exact laws_markTree.mono _ _ _ _
   | exact laws_toSpotS.mono _ _
   | exact laws_toTree.mono _ _ _
   | exact spec_ActivePairs.mono _ _ _ _ _
   | exact LeO.none _
   | refine LeO.ite ?_ ?_
   | refine LeO.bind ?_ (fun _ => ?_)
set_option maxHeartbeats 8000000 in
set_option maxRecDepth 100000 in
theorem laws_FnExactActivePairs.calls (k : Nat) (a0_0 : Int) (A0_1 : Option Addr) (c0_1 : Nat) (l0_1 : List (S104)) (a1 : Int) (A2 : Option Addr) (c2 : Nat) (l2 : List (S91)) (r : Bool) (w : World) (hr0_1 : Kd.C k104 w A0_1 l0_1.length l0_1) (hc0_1 : l0_1.length ≤ c0_1) (hr2 : Kd.C k91 w A2 l2.length l2) (hc2 : l2.length ≤ c2) (h : laws_FnExactActivePairs.f k a0_0 l0_1 a1 l2 = some r) :
  Calls Try.prog 12 #[.agg #[.int .i64 a0_0, .slice A0_1 l0_1.length c0_1], .int .i64 a1, .slice A2 l2.length c2] w fun e w' => e = .returned (.bool r) ∧ Below w.heap.size w w' := by
 have hu24 := Try.underlying24
 have hu29 := Try.underlying29
 have HR0_1 := Aside0.mk hr0_1
 have HC0_1 := Aside0.mk hc0_1
 clear hr0_1 hc0_1
 have HR2 := Aside0.mk hr2
 have HC2 := Aside0.mk hc2
 clear hr2 hc2
 have HB := Aside0.mk (Below.refl w.heap.size w)
 have H : ((laws_szTree.f a0_0 l0_1 1048576).bind fun t418 => (if t418 < 0 then (some true) else ((laws_szSpotS.f l2 t418).bind fun t419 => (if t419 < 0 then (some true) else ((laws_toTree.f k a0_0 l0_1).bind fun bt420 => ((laws_toSpotS.f k l2).bind fun t424 => ((spec_ActivePairs.f k bt420.1 bt420.2 a1 t424).bind fun bt427 => ((laws_toTree.f k a0_0 l0_1).bind fun bt431 => ((laws_toSpotS.f k l2).bind fun t436 => ((impl_ActivePairs.f k bt431.1 bt431.2 a1 t436).bind fun bt439 => ((laws_eqPairS.f k bt439.1 bt427.1).bind fun t443 => (if t443 = true then (laws_FnExactActivePairs.j0 k a1 l2 bt427.1 bt427.2 t436 bt439.1 bt439.2 (bt439.2 != bt427.2) a0_0 l0_1 bt431.1 bt431.2) else (laws_FnExactActivePairs.j0 k a1 l2 bt427.1 bt427.2 t436 bt439.1 bt439.2 true a0_0 l0_1 bt431.1 bt431.2))))))))))))) = some r := h
 clear h
 replace H := Option.bind_eq_some_iff.mp H
 obtain ⟨t418, A40, H⟩ := H
 replace H : (if t418 < 0 then (some true) else ((laws_szSpotS.f l2 t418).bind fun t419 => (if t419 < 0 then (some true) else ((laws_toTree.f k a0_0 l0_1).bind fun bt420 => ((laws_toSpotS.f k l2).bind fun t424 => ((spec_ActivePairs.f k bt420.1 bt420.2 a1 t424).bind fun bt427 => ((laws_toTree.f k a0_0 l0_1).bind fun bt431 => ((laws_toSpotS.f k l2).bind fun t436 => ((impl_ActivePairs.f k bt431.1 bt431.2 a1 t436).bind fun bt439 => ((laws_eqPairS.f k bt439.1 bt427.1).bind fun t443 => (if t443 = true then (laws_FnExactActivePairs.j0 k a1 l2 bt427.1 bt427.2 t436 bt439.1 bt439.2 (bt439.2 != bt427.2) a0_0 l0_1 bt431.1 bt431.2) else (laws_FnExactActivePairs.j0 k a1 l2 bt427.1 bt427.2 t436 bt439.1 bt439.2 true a0_0 l0_1 bt431.1 bt431.2)))))))))))) = some r := H
 have A4 := Aside0.mk A40
 clear A40
 by_cases c5 : t418 < 0
 ·rw [if_pos c5] at H
  have c5b0 := decide_eq_true c5
  clear c5
  obtain rfl := Option.some.inj H
  go_enter Try.func12, Try.ntmps12
  go_wp2_with (first | ((with_reducible refine gate_dst (N := 3) rfl ?_); refine box_event ?hg (N := 3) ?hd (cs := #[.int .i64 a0_0, .slice A0_1 l0_1.length c0_1]) (t := 24) ?hr ?_; (case hd => rfl); (case hg => rfl); (case hr => first | (go_simp; done) | (go_simp; rfl)); intro gb417 hg w6 hbox hb; have n0_ := Aside0.mk (below_step (bl0_ HB.out) hb); have n1_ := Aside0.mk (hbox); have n2_ := Aside0.mk ((by rw [hg]; exact (below_size (bl0_ HB.out)) : w.heap.size ≤ gb417)); have n3_ := Aside0.mk ((by rw [hg]; exact (below_size (bl0_ HB.out)) : w.heap.size ≤ gb417)); clear HB; have HB := n0_; have BK417 := n1_; have GW417 := n2_; have GE417 := n3_; clear n0_ n1_ n2_ n3_; clear hb hbox hg; have hcz7_0 : w6.cell? ⟨gb417, 0, none⟩ = some (.int .i64 a0_0) := (blk_cell BK417.out 0).trans rfl; have hcz7_1 : w6.cell? ⟨gb417, 1, none⟩ = some (.slice A0_1 l0_1.length c0_1) := (blk_cell BK417.out 1).trans rfl; have hfz7_0 := blk_frozen BK417.out 0; have hfz7_1 := blk_frozen BK417.out 1) | ((with_reducible refine gate_callee (f := 14) rfl ?_); refine goesL_ (some 21) rfl rfl Try.func14 (by kernel_rfl) rfl #[.agg #[.int .i64 a0_0, .slice A0_1 l0_1.length c0_1], .int .i64 1048576] rfl mp_ ?_; (with_reducible refine (laws_szTree.calls a0_0 _ _ l0_1 1048576 t418 _ ?side1 ?side2 A4.out).mono ?_); (case side1 => exact ca_ (Kd.C_below HR0_1.out HB.out)); (case side2 => exact HC0_1.out); rintro e w8 ⟨rfl, hb⟩; refine ⟨_, rfl, ?_⟩; have n0_ := Aside0.mk (blk_below (g := gb417) (o := .cells #[.int .i64 a0_0, .slice A0_1 l0_1.length c0_1] 24 (0, 0)) (bk_ BK417.out) hb); have n1_ := Aside0.mk (below_step (bl1_ HB.out GE417.out) hb); clear BK417; clear HB; have BK417 := n0_; have HB := n1_; clear n0_ n1_; (try clear hb); (try clear hb2); (try clear hk); (try clear hi)))
  go_ret
  exact ⟨re_, bl1_ HB.out GE417.out⟩
 ·rw [if_neg c5] at H
  have c5b0 := decide_eq_false c5
  clear c5
  replace H := Option.bind_eq_some_iff.mp H
  obtain ⟨t419, A90, H⟩ := H
  replace H : (if t419 < 0 then (some true) else ((laws_toTree.f k a0_0 l0_1).bind fun bt420 => ((laws_toSpotS.f k l2).bind fun t424 => ((spec_ActivePairs.f k bt420.1 bt420.2 a1 t424).bind fun bt427 => ((laws_toTree.f k a0_0 l0_1).bind fun bt431 => ((laws_toSpotS.f k l2).bind fun t436 => ((impl_ActivePairs.f k bt431.1 bt431.2 a1 t436).bind fun bt439 => ((laws_eqPairS.f k bt439.1 bt427.1).bind fun t443 => (if t443 = true then (laws_FnExactActivePairs.j0 k a1 l2 bt427.1 bt427.2 t436 bt439.1 bt439.2 (bt439.2 != bt427.2) a0_0 l0_1 bt431.1 bt431.2) else (laws_FnExactActivePairs.j0 k a1 l2 bt427.1 bt427.2 t436 bt439.1 bt439.2 true a0_0 l0_1 bt431.1 bt431.2)))))))))) = some r := H
  have A9 := Aside0.mk A90
  clear A90
  by_cases c10 : t419 < 0
  ·rw [if_pos c10] at H
   have c10b0 := decide_eq_true c10
   clear c10
   obtain rfl := Option.some.inj H
   go_enter Try.func12, Try.ntmps12
   go_wp2_with (first | ((with_reducible refine gate_dst (N := 3) rfl ?_); refine box_event ?hg (N := 3) ?hd (cs := #[.int .i64 a0_0, .slice A0_1 l0_1.length c0_1]) (t := 24) ?hr ?_; (case hd => rfl); (case hg => rfl); (case hr => first | (go_simp; done) | (go_simp; rfl)); intro gb417 hg w11 hbox hb; have n0_ := Aside0.mk (below_step (bl0_ HB.out) hb); have n1_ := Aside0.mk (hbox); have n2_ := Aside0.mk ((by rw [hg]; exact (below_size (bl0_ HB.out)) : w.heap.size ≤ gb417)); have n3_ := Aside0.mk ((by rw [hg]; exact (below_size (bl0_ HB.out)) : w.heap.size ≤ gb417)); clear HB; have HB := n0_; have BK417 := n1_; have GW417 := n2_; have GE417 := n3_; clear n0_ n1_ n2_ n3_; clear hb hbox hg; have hcz12_0 : w11.cell? ⟨gb417, 0, none⟩ = some (.int .i64 a0_0) := (blk_cell BK417.out 0).trans rfl; have hcz12_1 : w11.cell? ⟨gb417, 1, none⟩ = some (.slice A0_1 l0_1.length c0_1) := (blk_cell BK417.out 1).trans rfl; have hfz12_0 := blk_frozen BK417.out 0; have hfz12_1 := blk_frozen BK417.out 1) | ((with_reducible refine gate_callee (f := 14) rfl ?_); refine goesL_ (some 21) rfl rfl Try.func14 (by kernel_rfl) rfl #[.agg #[.int .i64 a0_0, .slice A0_1 l0_1.length c0_1], .int .i64 1048576] rfl mp_ ?_; (with_reducible refine (laws_szTree.calls a0_0 _ _ l0_1 1048576 t418 _ ?side1 ?side2 A4.out).mono ?_); (case side1 => exact ca_ (Kd.C_below HR0_1.out HB.out)); (case side2 => exact HC0_1.out); rintro e w13 ⟨rfl, hb⟩; refine ⟨_, rfl, ?_⟩; have n0_ := Aside0.mk (blk_below (g := gb417) (o := .cells #[.int .i64 a0_0, .slice A0_1 l0_1.length c0_1] 24 (0, 0)) (bk_ BK417.out) hb); have n1_ := Aside0.mk (below_step (bl1_ HB.out GE417.out) hb); clear BK417; clear HB; have BK417 := n0_; have HB := n1_; clear n0_ n1_; (try clear hb); (try clear hb2); (try clear hk); (try clear hi)) | ((with_reducible refine gate_callee (f := 36) rfl ?_); refine goesL_ (some 26) rfl rfl Try.func36 (by kernel_rfl) rfl #[.slice A2 l2.length c2, .int .i64 t418] rfl mp_ ?_; (with_reducible refine (laws_szSpotS.calls _ _ l2 t418 t419 _ ?side1 ?side2 A9.out).mono ?_); (case side1 => exact ca_ (Kd.C_below HR2.out HB.out)); (case side2 => exact HC2.out); rintro e w' ⟨rfl, ⟨nd, rfl⟩⟩; refine ⟨_, rfl, ?_⟩))
   go_ret
   exact ⟨re_, bl1_ HB.out GE417.out⟩
  ·rw [if_neg c10] at H
   have c10b0 := decide_eq_false c10
   clear c10
   replace H := Option.bind_eq_some_iff.mp H
   obtain ⟨⟨t420, t421⟩, A140, H⟩ := H
   replace H : ((laws_toSpotS.f k l2).bind fun t424 => ((spec_ActivePairs.f k t420 t421 a1 t424).bind fun bt427 => ((laws_toTree.f k a0_0 l0_1).bind fun bt431 => ((laws_toSpotS.f k l2).bind fun t436 => ((impl_ActivePairs.f k bt431.1 bt431.2 a1 t436).bind fun bt439 => ((laws_eqPairS.f k bt439.1 bt427.1).bind fun t443 => (if t443 = true then (laws_FnExactActivePairs.j0 k a1 l2 bt427.1 bt427.2 t436 bt439.1 bt439.2 (bt439.2 != bt427.2) a0_0 l0_1 bt431.1 bt431.2) else (laws_FnExactActivePairs.j0 k a1 l2 bt427.1 bt427.2 t436 bt439.1 bt439.2 true a0_0 l0_1 bt431.1 bt431.2)))))))) = some r := H
   have A14 := Aside0.mk A140
   clear A140
   replace H := Option.bind_eq_some_iff.mp H
   obtain ⟨t424, A150, H⟩ := H
   replace H : ((spec_ActivePairs.f k t420 t421 a1 t424).bind fun bt427 => ((laws_toTree.f k a0_0 l0_1).bind fun bt431 => ((laws_toSpotS.f k l2).bind fun t436 => ((impl_ActivePairs.f k bt431.1 bt431.2 a1 t436).bind fun bt439 => ((laws_eqPairS.f k bt439.1 bt427.1).bind fun t443 => (if t443 = true then (laws_FnExactActivePairs.j0 k a1 l2 bt427.1 bt427.2 t436 bt439.1 bt439.2 (bt439.2 != bt427.2) a0_0 l0_1 bt431.1 bt431.2) else (laws_FnExactActivePairs.j0 k a1 l2 bt427.1 bt427.2 t436 bt439.1 bt439.2 true a0_0 l0_1 bt431.1 bt431.2))))))) = some r := H
   have A15 := Aside0.mk A150
   clear A150
   replace H := Option.bind_eq_some_iff.mp H
   obtain ⟨⟨t427, t430⟩, A160, H⟩ := H
   replace H : ((laws_toTree.f k a0_0 l0_1).bind fun bt431 => ((laws_toSpotS.f k l2).bind fun t436 => ((impl_ActivePairs.f k bt431.1 bt431.2 a1 t436).bind fun bt439 => ((laws_eqPairS.f k bt439.1 t427).bind fun t443 => (if t443 = true then (laws_FnExactActivePairs.j0 k a1 l2 t427 t430 t436 bt439.1 bt439.2 (bt439.2 != t430) a0_0 l0_1 bt431.1 bt431.2) else (laws_FnExactActivePairs.j0 k a1 l2 t427 t430 t436 bt439.1 bt439.2 true a0_0 l0_1 bt431.1 bt431.2)))))) = some r := H
   have A16 := Aside0.mk A160
   clear A160
   replace H := Option.bind_eq_some_iff.mp H
   obtain ⟨⟨t431, t432⟩, A170, H⟩ := H
   replace H : ((laws_toSpotS.f k l2).bind fun t436 => ((impl_ActivePairs.f k t431 t432 a1 t436).bind fun bt439 => ((laws_eqPairS.f k bt439.1 t427).bind fun t443 => (if t443 = true then (laws_FnExactActivePairs.j0 k a1 l2 t427 t430 t436 bt439.1 bt439.2 (bt439.2 != t430) a0_0 l0_1 t431 t432) else (laws_FnExactActivePairs.j0 k a1 l2 t427 t430 t436 bt439.1 bt439.2 true a0_0 l0_1 t431 t432))))) = some r := H
   have A17 := Aside0.mk A170
   clear A170
   replace H := Option.bind_eq_some_iff.mp H
   obtain ⟨t436, A180, H⟩ := H
   replace H : ((impl_ActivePairs.f k t431 t432 a1 t436).bind fun bt439 => ((laws_eqPairS.f k bt439.1 t427).bind fun t443 => (if t443 = true then (laws_FnExactActivePairs.j0 k a1 l2 t427 t430 t436 bt439.1 bt439.2 (bt439.2 != t430) a0_0 l0_1 t431 t432) else (laws_FnExactActivePairs.j0 k a1 l2 t427 t430 t436 bt439.1 bt439.2 true a0_0 l0_1 t431 t432)))) = some r := H
   have A18 := Aside0.mk A180
   clear A180
   replace H := Option.bind_eq_some_iff.mp H
   obtain ⟨⟨t439, t442⟩, A190, H⟩ := H
   replace H : ((laws_eqPairS.f k t439 t427).bind fun t443 => (if t443 = true then (laws_FnExactActivePairs.j0 k a1 l2 t427 t430 t436 t439 t442 (t442 != t430) a0_0 l0_1 t431 t432) else (laws_FnExactActivePairs.j0 k a1 l2 t427 t430 t436 t439 t442 true a0_0 l0_1 t431 t432))) = some r := H
   have A19 := Aside0.mk A190
   clear A190
   have HC20 := Aside0.mk H
   clear H
   go_enter Try.func12, Try.ntmps12
   go_upto_region 12 with (first | ((with_reducible refine gate_dst (N := 3) rfl ?_); refine box_event ?hg (N := 3) ?hd (cs := #[.int .i64 a0_0, .slice A0_1 l0_1.length c0_1]) (t := 24) ?hr ?_; (case hd => rfl); (case hg => rfl); (case hr => first | (go_simp; done) | (go_simp; rfl)); intro gb417 hg w21 hbox hb; have n0_ := Aside0.mk (below_step (bl0_ HB.out) hb); have n1_ := Aside0.mk (hbox); have n2_ := Aside0.mk ((by rw [hg]; exact (below_size (bl0_ HB.out)) : w.heap.size ≤ gb417)); have n3_ := Aside0.mk ((by rw [hg]; exact (below_size (bl0_ HB.out)) : w.heap.size ≤ gb417)); clear HB; have HB := n0_; have BK417 := n1_; have GW417 := n2_; have GE417 := n3_; clear n0_ n1_ n2_ n3_; clear hb hbox hg; have hcz22_0 : w21.cell? ⟨gb417, 0, none⟩ = some (.int .i64 a0_0) := (blk_cell BK417.out 0).trans rfl; have hcz22_1 : w21.cell? ⟨gb417, 1, none⟩ = some (.slice A0_1 l0_1.length c0_1) := (blk_cell BK417.out 1).trans rfl; have hfz22_0 := blk_frozen BK417.out 0; have hfz22_1 := blk_frozen BK417.out 1) | ((with_reducible refine gate_callee (f := 14) rfl ?_); refine goesL_ (some 21) rfl rfl Try.func14 (by kernel_rfl) rfl #[.agg #[.int .i64 a0_0, .slice A0_1 l0_1.length c0_1], .int .i64 1048576] rfl mp_ ?_; (with_reducible refine (laws_szTree.calls a0_0 _ _ l0_1 1048576 t418 _ ?side1 ?side2 A4.out).mono ?_); (case side1 => exact ca_ (Kd.C_below HR0_1.out HB.out)); (case side2 => exact HC0_1.out); rintro e w23 ⟨rfl, hb⟩; refine ⟨_, rfl, ?_⟩; have n0_ := Aside0.mk (blk_below (g := gb417) (o := .cells #[.int .i64 a0_0, .slice A0_1 l0_1.length c0_1] 24 (0, 0)) (bk_ BK417.out) hb); have n1_ := Aside0.mk (below_step (bl1_ HB.out GE417.out) hb); clear BK417; clear HB; have BK417 := n0_; have HB := n1_; clear n0_ n1_; (try clear hb); (try clear hb2); (try clear hk); (try clear hi)) | ((with_reducible refine gate_callee (f := 36) rfl ?_); refine goesL_ (some 26) rfl rfl Try.func36 (by kernel_rfl) rfl #[.slice A2 l2.length c2, .int .i64 t418] rfl mp_ ?_; (with_reducible refine (laws_szSpotS.calls _ _ l2 t418 t419 _ ?side1 ?side2 A9.out).mono ?_); (case side1 => exact ca_ (Kd.C_below HR2.out HB.out)); (case side2 => exact HC2.out); rintro e w' ⟨rfl, ⟨nd, rfl⟩⟩; refine ⟨_, rfl, ?_⟩; (try (rw [drewN_self w23]; generalize hq_ : World.drewN w23 _ = w23; have n0_ : Aside0 (w23.heap[gb417]? = some (.cells #[.int .i64 a0_0, .slice A0_1 l0_1.length c0_1] 24 (0, 0))) := ⟨by rw [← hq_]; exact (bk_ BK417.out)⟩; have n1_ : Aside0 (Below w.heap.size w w23) := ⟨by rw [← hq_]; exact (bl1_ HB.out GE417.out)⟩; clear BK417 HB hq_; have BK417 := n0_; have HB := n1_; clear n0_ n1_)); have hcz24_0 : w23.cell? ⟨gb417, 0, none⟩ = some (.int .i64 a0_0) := (blk_cell BK417.out 0).trans rfl; have hcz24_1 : w23.cell? ⟨gb417, 1, none⟩ = some (.slice A0_1 l0_1.length c0_1) := (blk_cell BK417.out 1).trans rfl; have hfz24_0 := blk_frozen BK417.out 0; have hfz24_1 := blk_frozen BK417.out 1) | ((with_reducible refine gate_callee (f := 16) rfl ?_); refine goesL_ (some 31) rfl rfl Try.func16 (by kernel_rfl) rfl #[.agg #[.int .i64 a0_0, .slice A0_1 l0_1.length c0_1]] rfl mp_ ?_; (with_reducible refine (laws_toTree.calls k a0_0 _ _ l0_1 t420 t421 _ ?side1 ?side2 A14.out).mono ?_); (case side1 => exact ca_ (Kd.C_below HR0_1.out HB.out)); (case side2 => exact HC0_1.out); rintro e w25 ⟨v422, rfl, ho0, hb⟩; refine ⟨_, rfl, ?_⟩; have n0_ := Aside0.mk (Kd.R_lower ho0 (below_size (bl1_ HB.out GE417.out))); have n1_ := Aside0.mk (blk_below (g := gb417) (o := .cells #[.int .i64 a0_0, .slice A0_1 l0_1.length c0_1] 24 (0, 0)) (bk_ BK417.out) hb); have n2_ := Aside0.mk (below_step (bl1_ HB.out GE417.out) hb); clear BK417; clear HB; have HO423 := n0_; have BK417 := n1_; have HB := n2_; clear n0_ n1_ n2_; (try clear hb); (try clear hb2); (try clear hk); (try clear hi); (try clear ho0)) | ((with_reducible refine gate_callee (f := 38) rfl ?_); refine goesL_ (some 34) rfl rfl Try.func38 (by kernel_rfl) rfl #[.slice A2 l2.length c2] rfl mp_ ?_; (with_reducible refine (laws_toSpotS.calls k _ _ l2 t424 _ ?side1 ?side2 A15.out).mono ?_); (case side1 => exact ca_ (Kd.C_below HR2.out HB.out)); (case side2 => exact HC2.out); rintro e w26 ⟨v425, rfl, ho0, hb⟩; refine ⟨_, rfl, ?_⟩; have n0_ := Aside0.mk (Kd.R_below (ra_ HO423.out) hb); have n1_ := Aside0.mk (Kd.R_lower ho0 (below_size (bl1_ HB.out GE417.out))); have n2_ := Aside0.mk (blk_below (g := gb417) (o := .cells #[.int .i64 a0_0, .slice A0_1 l0_1.length c0_1] 24 (0, 0)) (bk_ BK417.out) hb); have n3_ := Aside0.mk (below_step (bl1_ HB.out GE417.out) hb); clear HO423; clear BK417; clear HB; have HO423 := n0_; have HO426 := n1_; have BK417 := n2_; have HB := n3_; clear n0_ n1_ n2_ n3_; (try clear hb); (try clear hb2); (try clear hk); (try clear hi); (try clear ho0); obtain ⟨Ao27, co27, eo27⟩ := Kd.R_slice HO423.out; subst eo27; obtain ⟨Ao28, co28, eo28⟩ := Kd.R_slice HO426.out; subst eo28) | ((with_reducible refine gate_callee (f := 47) rfl ?_); refine goesL_ (some 35) rfl rfl Try.func47 (by kernel_rfl) rfl #[.agg #[.int .i64 t420, .slice Ao27 t421.length co27], .int .i64 a1, .slice Ao28 t424.length co28] rfl mp_ ?_; (with_reducible refine (spec_ActivePairs.calls k t420 _ _ t421 a1 _ _ t424 t427 t430 _ ?side1 ?side2 ?side3 ?side4 A16.out).mono ?_); (case side1 => exact ca_ (Kd.R_reads' HO423.out).2.2); (case side2 => exact (Kd.R_reads' HO423.out).2.1); (case side3 => exact ca_ (Kd.R_reads' HO426.out).2.2); (case side4 => exact (Kd.R_reads' HO426.out).2.1); rintro e w29 ⟨v428, rfl, ho0, hb⟩; refine ⟨_, rfl, ?_⟩; have n0_ := Aside0.mk (Kd.R_below (ra_ HO423.out) hb); have n1_ := Aside0.mk (Kd.R_below (ra_ HO426.out) hb); have n2_ := Aside0.mk (Kd.R_lower ho0 (below_size (bl1_ HB.out GE417.out))); have n3_ := Aside0.mk (blk_below (g := gb417) (o := .cells #[.int .i64 a0_0, .slice A0_1 l0_1.length c0_1] 24 (0, 0)) (bk_ BK417.out) hb); have n4_ := Aside0.mk (below_step (bl1_ HB.out GE417.out) hb); clear HO423; clear HO426; clear BK417; clear HB; have HO423 := n0_; have HO426 := n1_; have HO429 := n2_; have BK417 := n3_; have HB := n4_; clear n0_ n1_ n2_ n3_ n4_; (try clear hb); (try clear hb2); (try clear hk); (try clear hi); (try clear ho0); have hcz30_0 : w29.cell? ⟨gb417, 0, none⟩ = some (.int .i64 a0_0) := (blk_cell BK417.out 0).trans rfl; have hcz30_1 : w29.cell? ⟨gb417, 1, none⟩ = some (.slice A0_1 l0_1.length c0_1) := (blk_cell BK417.out 1).trans rfl; have hfz30_0 := blk_frozen BK417.out 0; have hfz30_1 := blk_frozen BK417.out 1) | ((with_reducible refine gate_callee (f := 16) rfl ?_); refine goesL_ (some 39) rfl rfl Try.func16 (by kernel_rfl) rfl #[.agg #[.int .i64 a0_0, .slice A0_1 l0_1.length c0_1]] rfl mp_ ?_; (with_reducible refine (laws_toTree.calls k a0_0 _ _ l0_1 t431 t432 _ ?side1 ?side2 A17.out).mono ?_); (case side1 => exact ca_ (Kd.C_below HR0_1.out HB.out)); (case side2 => exact HC0_1.out); rintro e w31 ⟨v433, rfl, ho0, hb⟩; refine ⟨_, rfl, ?_⟩; have n0_ := Aside0.mk (Kd.R_elder' (ra_ HO423.out) (Kd.R_base ho0) hb); have n1_ := Aside0.mk (Kd.R_below (ra_ HO426.out) hb); have n2_ := Aside0.mk (Kd.R_below (ra_ HO429.out) hb); have n3_ := Aside0.mk (Kd.R_lower (Kd.R_new' ho0 (Kd.R_lt (ra_ HO423.out))) (below_size (bl1_ HB.out GE417.out))); have n4_ := Aside0.mk (blk_below (g := gb417) (o := .cells #[.int .i64 a0_0, .slice A0_1 l0_1.length c0_1] 24 (0, 0)) (bk_ BK417.out) hb); have n5_ := Aside0.mk (below_step (bl1_ HB.out GE417.out) hb); clear HO423; clear HO426; clear HO429; clear BK417; clear HB; have HO423 := n0_; have HO426 := n1_; have HO429 := n2_; have HO434 := n3_; have BK417 := n4_; have HB := n5_; clear n0_ n1_ n2_ n3_ n4_ n5_; (try clear hb); (try clear hb2); (try clear hk); (try clear hi); (try clear ho0)) | ((with_reducible refine gate_dst (N := 10) rfl ?_); refine box_event ?hg (N := 10) ?hd (cs := #[.int .i64 0, .slice none 0 0]) (t := 29) ?hr ?_; (case hd => rfl); (case hg => rfl); (case hr => first | (go_simp; done) | (go_simp; rfl)); intro gb435 hg w32 hbox hb; have n0_ := Aside0.mk (Kd.R_below (ra_ HO423.out) hb); have n1_ := Aside0.mk (Kd.R_below (ra_ HO426.out) hb); have n2_ := Aside0.mk (Kd.R_below (ra_ HO429.out) hb); have n3_ := Aside0.mk (Kd.R_below (ra_ HO434.out) hb); have n4_ := Aside0.mk (blk_below (g := gb417) (o := .cells #[.int .i64 a0_0, .slice A0_1 l0_1.length c0_1] 24 (0, 0)) (bk_ BK417.out) hb); have n5_ := Aside0.mk (below_step (bl1_ HB.out GE417.out) hb); have n6_ := Aside0.mk (hbox); have n7_ := Aside0.mk ((by rw [hg]; exact (below_size (bl1_ HB.out GE417.out)) : w.heap.size ≤ gb435)); have n8_ := Aside0.mk ((by rw [hg]; exact (below_size (bl1_ HB.out GE417.out)) : w.heap.size ≤ gb435)); have n9_ := Aside0.mk ((by rw [hg]; exact Nat.ne_of_lt (blk_lt (bk_ BK417.out)) : gb417 ≠ gb435)); have n10_ := Aside0.mk ((by rw [hg]; exact Nat.ne_of_gt (blk_lt (bk_ BK417.out)) : gb435 ≠ gb417)); clear HO423; clear HO426; clear HO429; clear HO434; clear BK417; clear HB; have HO423 := n0_; have HO426 := n1_; have HO429 := n2_; have HO434 := n3_; have BK417 := n4_; have HB := n5_; have BK435 := n6_; have GW435 := n7_; have GE435 := n8_; have NB417_435 := n9_; have NB435_417 := n10_; clear n0_ n1_ n2_ n3_ n4_ n5_ n6_ n7_ n8_ n9_ n10_; clear hb hbox hg; have hnb33 := NB435_417.out; have hnc33 := NB417_435.out; have hcz34_0 : w32.cell? ⟨gb435, 0, none⟩ = some (.int .i64 0) := (blk_cell BK435.out 0).trans rfl; have hcz34_1 : w32.cell? ⟨gb435, 1, none⟩ = some (.slice none 0 0) := (blk_cell BK435.out 1).trans rfl; have hfz34_0 := blk_frozen BK435.out 0; have hfz34_1 := blk_frozen BK435.out 1; obtain ⟨Ao35, co35, eo35⟩ := Kd.R_slice HO434.out; subst eo35) | ((with_reducible refine gate_callee (f := 38) rfl ?_); refine goesL_ (some 41) rfl rfl Try.func38 (by kernel_rfl) rfl #[.slice A2 l2.length c2] rfl mp_ ?_; (with_reducible refine (laws_toSpotS.calls k _ _ l2 t436 _ ?side1 ?side2 A18.out).mono ?_); (case side1 => exact Kd.C_below HR2.out (bl2_ HB.out GE417.out GE435.out)); (case side2 => exact HC2.out); rintro e w36 ⟨v437, rfl, ho0, hb⟩; refine ⟨_, rfl, ?_⟩; have n0_ := Aside0.mk (Kd.R_below (by (with_reducible repeat (first | apply Kd.R_alloc | apply Kd.R_drewN | apply Kd.R_drew)); exact (Kd.R_mono (Kd.R_far (p := ⟨gb435, 1, none⟩) (Kd.R_far (p := ⟨gb435, 0, none⟩) (Kd.R_types HO423.out BK435.out (by decide)) (fun _ hk => hk.2) (.int .i64 t431)) (fun _ hk => hk.2) (.slice Ao35 t432.length co35)) (fun _ h_ => h_.1))) hb); have n1_ := Aside0.mk (Kd.R_elder' (by (with_reducible repeat (first | apply Kd.R_alloc | apply Kd.R_drewN | apply Kd.R_drew)); exact (Kd.R_mono (Kd.R_far (p := ⟨gb435, 1, none⟩) (Kd.R_far (p := ⟨gb435, 0, none⟩) (Kd.R_types HO426.out BK435.out (by decide)) (fun _ hk => hk.2) (.int .i64 t431)) (fun _ hk => hk.2) (.slice Ao35 t432.length co35)) (fun _ h_ => h_.1))) (Kd.R_base ho0) hb); have n2_ := Aside0.mk (Kd.R_below (by (with_reducible repeat (first | apply Kd.R_alloc | apply Kd.R_drewN | apply Kd.R_drew)); exact (Kd.R_mono (Kd.R_far (p := ⟨gb435, 1, none⟩) (Kd.R_far (p := ⟨gb435, 0, none⟩) (Kd.R_types HO429.out BK435.out (by decide)) (fun _ hk => hk.2) (.int .i64 t431)) (fun _ hk => hk.2) (.slice Ao35 t432.length co35)) (fun _ h_ => h_.1))) hb); have n3_ := Aside0.mk (Kd.R_below (by (with_reducible repeat (first | apply Kd.R_alloc | apply Kd.R_drewN | apply Kd.R_drew)); exact (Kd.R_mono (Kd.R_far (p := ⟨gb435, 1, none⟩) (Kd.R_far (p := ⟨gb435, 0, none⟩) (Kd.R_types HO434.out BK435.out (by decide)) (fun _ hk => hk.2) (.int .i64 t431)) (fun _ hk => hk.2) (.slice Ao35 t432.length co35)) (fun _ h_ => h_.1))) hb); have n4_ := Aside0.mk (Kd.R_lower (Kd.R_new' ho0 (Kd.R_lt (by (with_reducible repeat (first | apply Kd.R_alloc | apply Kd.R_drewN | apply Kd.R_drew)); exact (Kd.R_mono (Kd.R_far (p := ⟨gb435, 1, none⟩) (Kd.R_far (p := ⟨gb435, 0, none⟩) (Kd.R_types HO426.out BK435.out (by decide)) (fun _ hk => hk.2) (.int .i64 t431)) (fun _ hk => hk.2) (.slice Ao35 t432.length co35)) (fun _ h_ => h_.1))))) (below_size (bl2_ HB.out GE417.out GE435.out))); have n5_ := Aside0.mk (blk_below (g := gb417) (o := .cells #[.int .i64 a0_0, .slice A0_1 l0_1.length c0_1] 24 (0, 0)) (by (with_reducible repeat (first | refine blk_drewN ?_ _ | refine blk_drew ?_ | refine blk_alloc ?_ _)); refine blk_far ?_ NB417_435.out _; (with_reducible repeat (first | refine blk_drewN ?_ _ | refine blk_drew ?_ | refine blk_alloc ?_ _)); refine blk_far ?_ NB417_435.out _; (with_reducible repeat (first | refine blk_drewN ?_ _ | refine blk_drew ?_ | refine blk_alloc ?_ _)); exact BK417.out) hb); have n6_ := Aside0.mk (blk_below (g := gb435) (o := .cells #[.int .i64 t431, .slice Ao35 t432.length co35] 29 (0, 0)) (by (with_reducible repeat (first | refine blk_drewN ?_ _ | refine blk_drew ?_ | refine blk_alloc ?_ _)); refine blk_put (cs := #[.int .i64 t431, .slice none 0 0]) ?_ 1 _ rfl; (with_reducible repeat (first | refine blk_drewN ?_ _ | refine blk_drew ?_ | refine blk_alloc ?_ _)); refine blk_put (cs := #[.int .i64 0, .slice none 0 0]) ?_ 0 _ rfl; (with_reducible repeat (first | refine blk_drewN ?_ _ | refine blk_drew ?_ | refine blk_alloc ?_ _)); exact BK435.out) hb); have n7_ := Aside0.mk (below_step (bl2_ HB.out GE417.out GE435.out) hb); clear HO423; clear HO426; clear HO429; clear HO434; clear BK417; clear BK435; clear HB; have HO423 := n0_; have HO426 := n1_; have HO429 := n2_; have HO434 := n3_; have HO438 := n4_; have BK417 := n5_; have BK435 := n6_; have HB := n7_; clear n0_ n1_ n2_ n3_ n4_ n5_ n6_ n7_; (try clear hb); (try clear hb2); (try clear hk); (try clear hi); (try clear ho0); have hcz37_0 : w36.cell? ⟨gb435, 0, none⟩ = some (.int .i64 t431) := (blk_cell BK435.out 0).trans rfl; have hcz37_1 : w36.cell? ⟨gb435, 1, none⟩ = some (.slice Ao35 t432.length co35) := (blk_cell BK435.out 1).trans rfl; have hfz37_0 := blk_frozen BK435.out 0; have hfz37_1 := blk_frozen BK435.out 1; obtain ⟨Ao38, co38, eo38⟩ := Kd.R_slice HO438.out; subst eo38) | ((with_reducible refine gate_callee (f := 48) rfl ?_); refine goesL_ (some 46) rfl rfl Try.func48 (by kernel_rfl) rfl #[.agg #[.int .i64 t431, .slice Ao35 t432.length co35], .int .i64 a1, .slice Ao38 t436.length co38] rfl mp_ ?_; (with_reducible refine (impl_ActivePairs.calls k t431 _ _ t432 a1 _ _ t436 t439 t442 _ ?side1 ?side2 ?side3 ?side4 A19.out).mono ?_); (case side1 => exact ca_ (Kd.R_reads' HO434.out).2.2); (case side2 => exact (Kd.R_reads' HO434.out).2.1); (case side3 => exact ca_ (Kd.R_reads' HO438.out).2.2); (case side4 => exact (Kd.R_reads' HO438.out).2.1); rintro e w39 ⟨v440, rfl, ho0, hb⟩; refine ⟨_, rfl, ?_⟩; have n0_ := Aside0.mk (Kd.R_below (ra_ HO423.out) hb); have n1_ := Aside0.mk (Kd.R_below (ra_ HO426.out) hb); have n2_ := Aside0.mk (Kd.R_elder' (ra_ HO429.out) (Kd.R_base ho0) hb); have n3_ := Aside0.mk (Kd.R_below (ra_ HO434.out) hb); have n4_ := Aside0.mk (Kd.R_below (ra_ HO438.out) hb); have n5_ := Aside0.mk (Kd.R_lower (Kd.R_new' ho0 (Kd.R_lt (ra_ HO429.out))) (below_size (bl2_ HB.out GE417.out GE435.out))); have n6_ := Aside0.mk (blk_below (g := gb417) (o := .cells #[.int .i64 a0_0, .slice A0_1 l0_1.length c0_1] 24 (0, 0)) (bk_ BK417.out) hb); have n7_ := Aside0.mk (blk_below (g := gb435) (o := .cells #[.int .i64 t431, .slice Ao35 t432.length co35] 29 (0, 0)) (bk_ BK435.out) hb); have n8_ := Aside0.mk (below_step (bl2_ HB.out GE417.out GE435.out) hb); clear HO423; clear HO426; clear HO429; clear HO434; clear HO438; clear BK417; clear BK435; clear HB; have HO423 := n0_; have HO426 := n1_; have HO429 := n2_; have HO434 := n3_; have HO438 := n4_; have HO441 := n5_; have BK417 := n6_; have BK435 := n7_; have HB := n8_; clear n0_ n1_ n2_ n3_ n4_ n5_ n6_ n7_ n8_; (try clear hb); (try clear hb2); (try clear hk); (try clear hi); (try clear ho0)))
   (try simp only [Act.put, List.setIfInBounds_toArray, List.set_cons_zero, List.set_cons_succ])
   go_cut [57] (fun v57 wc => ∃ (kq : Nat) (x57_19 : Bool), v57 = .bool x57_19 ∧ Aside0 (laws_FnExactActivePairs.j0 kq a1 l2 t427 t430 t436 t439 t442 x57_19 a0_0 l0_1 t431 t432 = some r) ∧ Aside0 (kq ≤ k) ∧ Aside0 (Kd.R k97 97 wc w.heap.size (fun k_ => some k_ ≠ (v440 : Value).ownBlock) v428 t427) ∧ Aside0 (Kd.R k68 68 wc w.heap.size (fun _ => True) (.slice Ao38 t436.length co38) t436) ∧ Aside0 (Kd.R k97 97 wc w.heap.size (fun k_ => some k_ ≠ (v428 : Value).ownBlock) v440 t439) ∧ Aside0 (Kd.R k71 71 wc w.heap.size (fun _ => True) (.slice Ao35 t432.length co35) t432) ∧ Aside0 (wc.heap[gb417]? = some (.cells #[.int .i64 a0_0, (.slice A0_1 l0_1.length c0_1)] 24 (0, 0))) ∧ Aside0 (wc.heap[gb435]? = some (.cells #[.int .i64 t431, (.slice Ao35 t432.length co35)] 29 (0, 0))) ∧ Aside0 (Below w.heap.size w wc))
   case first =>
    have H := HC20.out
    clear HC20
    replace H := Option.bind_eq_some_iff.mp H
    obtain ⟨t443, A400, H⟩ := H
    replace H : (if t443 = true then (laws_FnExactActivePairs.j0 k a1 l2 t427 t430 t436 t439 t442 (t442 != t430) a0_0 l0_1 t431 t432) else (laws_FnExactActivePairs.j0 k a1 l2 t427 t430 t436 t439 t442 true a0_0 l0_1 t431 t432)) = some r := H
    have A40 := Aside0.mk A400
    clear A400
    by_cases c41 : t443 = true
    ·subst c41
     have H1 : (laws_FnExactActivePairs.j0 k a1 l2 t427 t430 t436 t439 t442 (t442 != t430) a0_0 l0_1 t431 t432) = some r := by rw [if_pos rfl] at H; exact H
     clear H
     have H := H1
     clear H1
     have H' := Aside0.mk H
     clear H
     obtain ⟨Ao42, co42, eo42⟩ := Kd.R_slice HO441.out
     subst eo42
     obtain ⟨Ao43, co43, eo43⟩ := Kd.R_slice HO429.out
     subst eo43
     go_wp2_with (first | ((with_reducible refine gate_callee (f := 49) rfl ?_); refine goesL_ (some 51) rfl rfl Try.func49 (by kernel_rfl) rfl #[.slice Ao42 t439.length co42, .slice Ao43 t427.length co43] rfl mp_ ?_; (with_reducible refine (laws_eqPairS.calls k _ _ t439 _ _ t427 true _ ?side1 ?side2 ?side3 ?side4 A40.out).mono ?_); (case side1 => exact ca_ (Kd.R_reads' HO441.out).2.2); (case side2 => exact (Kd.R_reads' HO441.out).2.1); (case side3 => exact ca_ (Kd.R_reads' HO429.out).2.2); (case side4 => exact (Kd.R_reads' HO429.out).2.1); rintro e w44 ⟨rfl, hb⟩; refine ⟨_, rfl, ?_⟩; have n0_ := Aside0.mk (Kd.R_below (ra_ HO423.out) hb); have n1_ := Aside0.mk (Kd.R_below (ra_ HO426.out) hb); have n2_ := Aside0.mk (Kd.R_below (ra_ HO429.out) hb); have n3_ := Aside0.mk (Kd.R_below (ra_ HO434.out) hb); have n4_ := Aside0.mk (Kd.R_below (ra_ HO438.out) hb); have n5_ := Aside0.mk (Kd.R_below (ra_ HO441.out) hb); have n6_ := Aside0.mk (blk_below (g := gb417) (o := .cells #[.int .i64 a0_0, .slice A0_1 l0_1.length c0_1] 24 (0, 0)) (bk_ BK417.out) hb); have n7_ := Aside0.mk (blk_below (g := gb435) (o := .cells #[.int .i64 t431, .slice Ao35 t432.length co35] 29 (0, 0)) (bk_ BK435.out) hb); have n8_ := Aside0.mk (below_step (bl2_ HB.out GE417.out GE435.out) hb); clear HO423; clear HO426; clear HO429; clear HO434; clear HO438; clear HO441; clear BK417; clear BK435; clear HB; have HO423 := n0_; have HO426 := n1_; have HO429 := n2_; have HO434 := n3_; have HO438 := n4_; have HO441 := n5_; have BK417 := n6_; have BK435 := n7_; have HB := n8_; clear n0_ n1_ n2_ n3_ n4_ n5_ n6_ n7_ n8_; (try clear hb); (try clear hb2); (try clear hk); (try clear hi)))
     go_meet
     case rel => exact ⟨_, ((t442 != t430)), rs_, H', ⟨by first | omega | exact Nat.le_refl _⟩, ⟨by (with_reducible repeat (first | apply Kd.R_alloc | apply Kd.R_drewN | apply Kd.R_drew)); exact Kd.R_mono HO429.out (fun _ hk => hk.2)⟩, ⟨by (with_reducible repeat (first | apply Kd.R_alloc | apply Kd.R_drewN | apply Kd.R_drew)); exact Kd.R_mono HO438.out (fun _ hk => trivial)⟩, ⟨by (with_reducible repeat (first | apply Kd.R_alloc | apply Kd.R_drewN | apply Kd.R_drew)); exact Kd.R_mono HO441.out (fun _ hk => hk.2)⟩, ⟨by (with_reducible repeat (first | apply Kd.R_alloc | apply Kd.R_drewN | apply Kd.R_drew)); exact Kd.R_mono HO434.out (fun _ hk => trivial)⟩, ⟨bk_ BK417.out⟩, ⟨bk_ BK435.out⟩, ⟨bl2_ HB.out GE417.out GE435.out⟩⟩
    ·replace c41 := Bool.eq_false_iff.mpr c41
     subst c41
     have H1 : (laws_FnExactActivePairs.j0 k a1 l2 t427 t430 t436 t439 t442 true a0_0 l0_1 t431 t432) = some r := by rw [if_neg (show ¬ (false = true) by decide)] at H; exact H
     clear H
     have H := H1
     clear H1
     have H' := Aside0.mk H
     clear H
     obtain ⟨Ao45, co45, eo45⟩ := Kd.R_slice HO441.out
     subst eo45
     obtain ⟨Ao46, co46, eo46⟩ := Kd.R_slice HO429.out
     subst eo46
     go_wp2_with (first | ((with_reducible refine gate_callee (f := 49) rfl ?_); refine goesL_ (some 51) rfl rfl Try.func49 (by kernel_rfl) rfl #[.slice Ao45 t439.length co45, .slice Ao46 t427.length co46] rfl mp_ ?_; (with_reducible refine (laws_eqPairS.calls k _ _ t439 _ _ t427 false _ ?side1 ?side2 ?side3 ?side4 A40.out).mono ?_); (case side1 => exact ca_ (Kd.R_reads' HO441.out).2.2); (case side2 => exact (Kd.R_reads' HO441.out).2.1); (case side3 => exact ca_ (Kd.R_reads' HO429.out).2.2); (case side4 => exact (Kd.R_reads' HO429.out).2.1); rintro e w47 ⟨rfl, hb⟩; refine ⟨_, rfl, ?_⟩; have n0_ := Aside0.mk (Kd.R_below (ra_ HO423.out) hb); have n1_ := Aside0.mk (Kd.R_below (ra_ HO426.out) hb); have n2_ := Aside0.mk (Kd.R_below (ra_ HO429.out) hb); have n3_ := Aside0.mk (Kd.R_below (ra_ HO434.out) hb); have n4_ := Aside0.mk (Kd.R_below (ra_ HO438.out) hb); have n5_ := Aside0.mk (Kd.R_below (ra_ HO441.out) hb); have n6_ := Aside0.mk (blk_below (g := gb417) (o := .cells #[.int .i64 a0_0, .slice A0_1 l0_1.length c0_1] 24 (0, 0)) (bk_ BK417.out) hb); have n7_ := Aside0.mk (blk_below (g := gb435) (o := .cells #[.int .i64 t431, .slice Ao35 t432.length co35] 29 (0, 0)) (bk_ BK435.out) hb); have n8_ := Aside0.mk (below_step (bl2_ HB.out GE417.out GE435.out) hb); clear HO423; clear HO426; clear HO429; clear HO434; clear HO438; clear HO441; clear BK417; clear BK435; clear HB; have HO423 := n0_; have HO426 := n1_; have HO429 := n2_; have HO434 := n3_; have HO438 := n4_; have HO441 := n5_; have BK417 := n6_; have BK435 := n7_; have HB := n8_; clear n0_ n1_ n2_ n3_ n4_ n5_ n6_ n7_ n8_; (try clear hb); (try clear hb2); (try clear hk); (try clear hi)))
     go_meet
     case rel => exact ⟨_, (true), rs_, H', ⟨by first | omega | exact Nat.le_refl _⟩, ⟨by (with_reducible repeat (first | apply Kd.R_alloc | apply Kd.R_drewN | apply Kd.R_drew)); exact Kd.R_mono HO429.out (fun _ hk => hk.2)⟩, ⟨by (with_reducible repeat (first | apply Kd.R_alloc | apply Kd.R_drewN | apply Kd.R_drew)); exact Kd.R_mono HO438.out (fun _ hk => trivial)⟩, ⟨by (with_reducible repeat (first | apply Kd.R_alloc | apply Kd.R_drewN | apply Kd.R_drew)); exact Kd.R_mono HO441.out (fun _ hk => hk.2)⟩, ⟨by (with_reducible repeat (first | apply Kd.R_alloc | apply Kd.R_drewN | apply Kd.R_drew)); exact Kd.R_mono HO434.out (fun _ hk => trivial)⟩, ⟨bk_ BK417.out⟩, ⟨bk_ BK435.out⟩, ⟨bl2_ HB.out GE417.out GE435.out⟩⟩
   case rest =>
    clear HC20
    try clear c1
    try clear c2
    try clear p2
    try clear c3
    try clear c4
    try clear c5
    try clear c5b0
    try clear c10
    try clear c10b0
    try clear c12
    try clear c14
    try clear c16
    try clear c33
    try clear c36
    try clear c38
    try clear c41
    try clear c47
    try clear hcz12_0
    try clear hcz12_1
    try clear hcz22_0
    try clear hcz22_1
    try clear hcz24_0
    try clear hcz24_1
    try clear hcz30_0
    try clear hcz30_1
    try clear hcz34_0
    try clear hcz34_1
    try clear hcz37_0
    try clear hcz37_1
    try clear hcz7_0
    try clear hcz7_1
    try clear hfz12_0
    try clear hfz12_1
    try clear hfz22_0
    try clear hfz22_1
    try clear hfz24_0
    try clear hfz24_1
    try clear hfz30_0
    try clear hfz30_1
    try clear hfz34_0
    try clear hfz34_1
    try clear hfz37_0
    try clear hfz37_1
    try clear hfz7_0
    try clear hfz7_1
    obtain ⟨kq, x57_19, rfl, HA, HJ19, HO_8, HO_11, HO_12, HO_436001, BK417, BK435, HB⟩ := hcut
    cases kq with
    | zero => exact absurd HA.out (by simp [laws_FnExactActivePairs.j0])
    | succ kj19 =>
     have H := HA.out
     clear HA
     simp only [laws_FnExactActivePairs.j0] at H
     by_cases c48 : x57_19 = true
     ·subst c48
      have H1 : (some false) = some r := by rw [if_pos rfl] at H; exact H
      clear H
      have H := H1
      clear H1
      obtain rfl := Option.some.inj H
      go_wp2
      go_ret
      exact ⟨re_, bl2_ HB.out GE417.out GE435.out⟩
     ·replace c48 := Bool.eq_false_iff.mpr c48
      subst c48
      have H1 : ((laws_toTree.f kj19 a0_0 l0_1).bind fun bt444 => ((laws_eqTree.f kj19 t431 t432 bt444.1 bt444.2).bind fun t448 => (if t448 = true then ((laws_toSpotS.f kj19 l2).bind fun t449 => ((laws_eqSpotS.f kj19 t436 t449).bind fun t452 => (if t452 = true then ((laws_markTree.f kj19 t431 t432 1).bind fun bt453 => ((laws_markSpotS.f kj19 t436 bt453.1).bind fun bt455 => (if bt455.1 < 0 then (laws_FnExactActivePairs.j1 kj19 a1 l2 t427 t430 t439 true a0_0 l0_1) else ((laws_eqPairS.f kj19 t439 t427).bind fun t457 => (if t457 = true then (laws_FnExactActivePairs.j1 kj19 a1 l2 t427 t430 t439 (t442 != t430) a0_0 l0_1) else (laws_FnExactActivePairs.j1 kj19 a1 l2 t427 t430 t439 true a0_0 l0_1)))))) else (some false)))) else (some false)))) = some r := by rw [if_neg (show ¬ (false = true) by decide)] at H; exact H
      clear H
      have H := H1
      clear H1
      replace H := Option.bind_eq_some_iff.mp H
      obtain ⟨⟨t444, t445⟩, A490, H⟩ := H
      replace H : ((laws_eqTree.f kj19 t431 t432 t444 t445).bind fun t448 => (if t448 = true then ((laws_toSpotS.f kj19 l2).bind fun t449 => ((laws_eqSpotS.f kj19 t436 t449).bind fun t452 => (if t452 = true then ((laws_markTree.f kj19 t431 t432 1).bind fun bt453 => ((laws_markSpotS.f kj19 t436 bt453.1).bind fun bt455 => (if bt455.1 < 0 then (laws_FnExactActivePairs.j1 kj19 a1 l2 t427 t430 t439 true a0_0 l0_1) else ((laws_eqPairS.f kj19 t439 t427).bind fun t457 => (if t457 = true then (laws_FnExactActivePairs.j1 kj19 a1 l2 t427 t430 t439 (t442 != t430) a0_0 l0_1) else (laws_FnExactActivePairs.j1 kj19 a1 l2 t427 t430 t439 true a0_0 l0_1)))))) else (some false)))) else (some false))) = some r := H
      have A49 := Aside0.mk A490
      clear A490
      replace H := Option.bind_eq_some_iff.mp H
      obtain ⟨t448, A500, H⟩ := H
      replace H : (if t448 = true then ((laws_toSpotS.f kj19 l2).bind fun t449 => ((laws_eqSpotS.f kj19 t436 t449).bind fun t452 => (if t452 = true then ((laws_markTree.f kj19 t431 t432 1).bind fun bt453 => ((laws_markSpotS.f kj19 t436 bt453.1).bind fun bt455 => (if bt455.1 < 0 then (laws_FnExactActivePairs.j1 kj19 a1 l2 t427 t430 t439 true a0_0 l0_1) else ((laws_eqPairS.f kj19 t439 t427).bind fun t457 => (if t457 = true then (laws_FnExactActivePairs.j1 kj19 a1 l2 t427 t430 t439 (t442 != t430) a0_0 l0_1) else (laws_FnExactActivePairs.j1 kj19 a1 l2 t427 t430 t439 true a0_0 l0_1)))))) else (some false)))) else (some false)) = some r := H
      have A50 := Aside0.mk A500
      clear A500
      by_cases c51 : t448 = true
      ·subst c51
       have H1 : ((laws_toSpotS.f kj19 l2).bind fun t449 => ((laws_eqSpotS.f kj19 t436 t449).bind fun t452 => (if t452 = true then ((laws_markTree.f kj19 t431 t432 1).bind fun bt453 => ((laws_markSpotS.f kj19 t436 bt453.1).bind fun bt455 => (if bt455.1 < 0 then (laws_FnExactActivePairs.j1 kj19 a1 l2 t427 t430 t439 true a0_0 l0_1) else ((laws_eqPairS.f kj19 t439 t427).bind fun t457 => (if t457 = true then (laws_FnExactActivePairs.j1 kj19 a1 l2 t427 t430 t439 (t442 != t430) a0_0 l0_1) else (laws_FnExactActivePairs.j1 kj19 a1 l2 t427 t430 t439 true a0_0 l0_1)))))) else (some false)))) = some r := by rw [if_pos rfl] at H; exact H
       clear H
       have H := H1
       clear H1
       replace H := Option.bind_eq_some_iff.mp H
       obtain ⟨t449, A520, H⟩ := H
       replace H : ((laws_eqSpotS.f kj19 t436 t449).bind fun t452 => (if t452 = true then ((laws_markTree.f kj19 t431 t432 1).bind fun bt453 => ((laws_markSpotS.f kj19 t436 bt453.1).bind fun bt455 => (if bt455.1 < 0 then (laws_FnExactActivePairs.j1 kj19 a1 l2 t427 t430 t439 true a0_0 l0_1) else ((laws_eqPairS.f kj19 t439 t427).bind fun t457 => (if t457 = true then (laws_FnExactActivePairs.j1 kj19 a1 l2 t427 t430 t439 (t442 != t430) a0_0 l0_1) else (laws_FnExactActivePairs.j1 kj19 a1 l2 t427 t430 t439 true a0_0 l0_1)))))) else (some false))) = some r := H
       have A52 := Aside0.mk A520
       clear A520
       replace H := Option.bind_eq_some_iff.mp H
       obtain ⟨t452, A530, H⟩ := H
       replace H : (if t452 = true then ((laws_markTree.f kj19 t431 t432 1).bind fun bt453 => ((laws_markSpotS.f kj19 t436 bt453.1).bind fun bt455 => (if bt455.1 < 0 then (laws_FnExactActivePairs.j1 kj19 a1 l2 t427 t430 t439 true a0_0 l0_1) else ((laws_eqPairS.f kj19 t439 t427).bind fun t457 => (if t457 = true then (laws_FnExactActivePairs.j1 kj19 a1 l2 t427 t430 t439 (t442 != t430) a0_0 l0_1) else (laws_FnExactActivePairs.j1 kj19 a1 l2 t427 t430 t439 true a0_0 l0_1)))))) else (some false)) = some r := H
       have A53 := Aside0.mk A530
       clear A530
       by_cases c54 : t452 = true
       ·subst c54
        have H1 : ((laws_markTree.f kj19 t431 t432 1).bind fun bt453 => ((laws_markSpotS.f kj19 t436 bt453.1).bind fun bt455 => (if bt455.1 < 0 then (laws_FnExactActivePairs.j1 kj19 a1 l2 t427 t430 t439 true a0_0 l0_1) else ((laws_eqPairS.f kj19 t439 t427).bind fun t457 => (if t457 = true then (laws_FnExactActivePairs.j1 kj19 a1 l2 t427 t430 t439 (t442 != t430) a0_0 l0_1) else (laws_FnExactActivePairs.j1 kj19 a1 l2 t427 t430 t439 true a0_0 l0_1)))))) = some r := by rw [if_pos rfl] at H; exact H
        clear H
        have H := H1
        clear H1
        replace H := Option.bind_eq_some_iff.mp H
        obtain ⟨⟨t453, t454⟩, A550, H⟩ := H
        replace H : ((laws_markSpotS.f kj19 t436 t453).bind fun bt455 => (if bt455.1 < 0 then (laws_FnExactActivePairs.j1 kj19 a1 l2 t427 t430 t439 true a0_0 l0_1) else ((laws_eqPairS.f kj19 t439 t427).bind fun t457 => (if t457 = true then (laws_FnExactActivePairs.j1 kj19 a1 l2 t427 t430 t439 (t442 != t430) a0_0 l0_1) else (laws_FnExactActivePairs.j1 kj19 a1 l2 t427 t430 t439 true a0_0 l0_1))))) = some r := H
        have A55 := Aside0.mk A550
        clear A550
        replace H := Option.bind_eq_some_iff.mp H
        obtain ⟨⟨t455, t456⟩, A560, H⟩ := H
        replace H : (if t455 < 0 then (laws_FnExactActivePairs.j1 kj19 a1 l2 t427 t430 t439 true a0_0 l0_1) else ((laws_eqPairS.f kj19 t439 t427).bind fun t457 => (if t457 = true then (laws_FnExactActivePairs.j1 kj19 a1 l2 t427 t430 t439 (t442 != t430) a0_0 l0_1) else (laws_FnExactActivePairs.j1 kj19 a1 l2 t427 t430 t439 true a0_0 l0_1)))) = some r := H
        have A56 := Aside0.mk A560
        clear A560
        have HC57 := Aside0.mk H
        clear H
        try go_wp2
        have n0_ := Aside0.mk (Kd.R_drew HO_8.out)
        have n1_ := Aside0.mk (Kd.R_drew HO_11.out)
        have n2_ := Aside0.mk (Kd.R_drew HO_12.out)
        have n3_ := Aside0.mk (Kd.R_drew HO_436001.out)
        have n4_ := Aside0.mk (blk_drew BK417.out)
        have n5_ := Aside0.mk (blk_drew BK435.out)
        have n6_ := Aside0.mk (below_drew1 HB.out)
        clear HO_8
        clear HO_11
        clear HO_12
        clear HO_436001
        clear BK417
        clear BK435
        clear HB
        have HO_8 := n0_
        have HO_11 := n1_
        have HO_12 := n2_
        have HO_436001 := n3_
        have BK417 := n4_
        have BK435 := n5_
        have HB := n6_
        clear n0_ n1_ n2_ n3_ n4_ n5_ n6_
        refine start_ (n := 5) (S := fun w' => w'.cell? ⟨gb435, 0, none⟩ = some (.int .i64 t431) ∧ w'.cell? ⟨gb435, 1, none⟩ = some (.slice Ao35 t432.length co35) ∧ w'.cell? ⟨gb417, 0, none⟩ = some (.int .i64 a0_0) ∧ w'.cell? ⟨gb417, 1, none⟩ = some (.slice A0_1 l0_1.length c0_1)) (ds := []) #[false,false,false,false,false] (by kernel_rfl) rfl rfl ⟨(blk_cell BK435.out 0).trans rfl, (blk_cell BK435.out 1).trans rfl, (blk_cell BK417.out 0).trans rfl, (blk_cell BK417.out 1).trans rfl⟩ (fun hHeld => ?_)
        generalize wc.drew = w58 at HO_8 HO_11 HO_12 HO_436001 BK417 BK435 HB hHeld ⊢
        refine tkz_ 0 (some 58) #[true,false,false,false,false] rfl rfl (by kernel_rfl) hHeld ?_
        refine tkz_ 1 (some 59) #[true,true,false,false,false] rfl rfl (by kernel_rfl) hHeld ?_
        refine one_ (i := 2) (N := some 60) #[true,true,true,false,false] rfl rfl (by kernel_rfl) (by decide) (fun K hK => ?_)
        refine goes_ Try.func16 (by kernel_rfl) rfl #[.agg #[.int .i64 a0_0, .slice A0_1 l0_1.length c0_1]] (by rfl) rfl rfl mp_ ?_
        with_reducible refine (laws_toTree.calls kj19 a0_0 _ _ l0_1 t444 t445 _ ?side1 ?side2 A49.out).mono ?_
        (case side1 => exact ca_ (Kd.C_below HR0_1.out HB.out))
        (case side2 => exact HC0_1.out)
        rintro e w59 ⟨v446, rfl, ho0, hb⟩
        refine ⟨_, rfl, ?_⟩
        have n0_ := Aside0.mk (Kd.R_below (ra_ HO_8.out) hb)
        have n1_ := Aside0.mk (Kd.R_below (ra_ HO_11.out) hb)
        have n2_ := Aside0.mk (Kd.R_below (ra_ HO_12.out) hb)
        have n3_ := Aside0.mk (Kd.R_elder' (ra_ HO_436001.out) (Kd.R_base ho0) hb)
        have n4_ := Aside0.mk (Kd.R_lower (Kd.R_new' ho0 (Kd.R_lt (ra_ HO_436001.out))) (below_size (bl2_ HB.out GE417.out GE435.out)))
        have n5_ := Aside0.mk (blk_below (g := gb417) (o := .cells #[.int .i64 a0_0, .slice A0_1 l0_1.length c0_1] 24 (0, 0)) (bk_ BK417.out) hb)
        have n6_ := Aside0.mk (blk_below (g := gb435) (o := .cells #[.int .i64 t431, .slice Ao35 t432.length co35] 29 (0, 0)) (bk_ BK435.out) hb)
        have n7_ := Aside0.mk (below_step (bl2_ HB.out GE417.out GE435.out) hb)
        clear HO_8
        clear HO_11
        clear HO_12
        clear HO_436001
        clear BK417
        clear BK435
        clear HB
        have HO_8 := n0_
        have HO_11 := n1_
        have HO_12 := n2_
        have HO_436001 := n3_
        have HO447 := n4_
        have BK417 := n5_
        have BK435 := n6_
        have HB := n7_
        clear n0_ n1_ n2_ n3_ n4_ n5_ n6_ n7_
        (try clear hb)
        (try clear hb2)
        (try clear hk)
        (try clear hi)
        (try clear ho0)
        obtain ⟨Ao60, co60, eo60⟩ := Kd.R_slice HO447.out
        (first | subst eo60 | (injection eo60 with f1_ f2_ f3_; have f4_ := f1_.symm; have f5_ := f3_.symm; clear f1_ f2_ f3_; subst f4_; subst f5_))
        refine hK.out _ _ ⟨(blk_cell BK435.out 0).trans rfl, (blk_cell BK435.out 1).trans rfl, (blk_cell BK417.out 0).trans rfl, (blk_cell BK417.out 1).trans rfl⟩ (fun hHeld => ?_)
        clear hK K
        refine norm_ (a' := ?_) ?_ ?_
        rotate_left
        ·show Act.put _ (some 60) _ = _
         simp only [Act.put, List.setIfInBounds_toArray, List.set_cons_zero, List.set_cons_succ, i64_w, i32_w]
         rfl
        refine one_ (i := 3) (N := some 61) #[true,true,true,true,false] rfl rfl (by kernel_rfl) (by decide) (fun K hK => ?_)
        refine goes_ Try.func18 (by kernel_rfl) rfl #[.agg #[.int .i64 t431, .slice Ao35 t432.length co35], .agg #[.int .i64 t444, .slice Ao60 t445.length co60]] (by rfl) rfl rfl mp_ ?_
        with_reducible refine (laws_eqTree.calls kj19 t431 _ _ t432 t444 _ _ t445 true _ ?side1 ?side2 ?side3 ?side4 A50.out).mono ?_
        (case side1 => exact ca_ (Kd.R_reads' HO_436001.out).2.2)
        (case side2 => exact (Kd.R_reads' HO_436001.out).2.1)
        (case side3 => exact ca_ (Kd.R_reads' HO447.out).2.2)
        (case side4 => exact (Kd.R_reads' HO447.out).2.1)
        rintro e w61 ⟨rfl, hb⟩
        refine ⟨_, rfl, ?_⟩
        have n0_ := Aside0.mk (Kd.R_below (ra_ HO_8.out) hb)
        have n1_ := Aside0.mk (Kd.R_below (ra_ HO_11.out) hb)
        have n2_ := Aside0.mk (Kd.R_below (ra_ HO_12.out) hb)
        have n3_ := Aside0.mk (Kd.R_below (ra_ HO_436001.out) hb)
        have n4_ := Aside0.mk (Kd.R_below (ra_ HO447.out) hb)
        have n5_ := Aside0.mk (blk_below (g := gb417) (o := .cells #[.int .i64 a0_0, .slice A0_1 l0_1.length c0_1] 24 (0, 0)) (bk_ BK417.out) hb)
        have n6_ := Aside0.mk (blk_below (g := gb435) (o := .cells #[.int .i64 t431, .slice Ao35 t432.length co35] 29 (0, 0)) (bk_ BK435.out) hb)
        have n7_ := Aside0.mk (below_step (bl2_ HB.out GE417.out GE435.out) hb)
        clear HO_8
        clear HO_11
        clear HO_12
        clear HO_436001
        clear HO447
        clear BK417
        clear BK435
        clear HB
        have HO_8 := n0_
        have HO_11 := n1_
        have HO_12 := n2_
        have HO_436001 := n3_
        have HO447 := n4_
        have BK417 := n5_
        have BK435 := n6_
        have HB := n7_
        clear n0_ n1_ n2_ n3_ n4_ n5_ n6_ n7_
        (try clear hb)
        (try clear hb2)
        (try clear hk)
        (try clear hi)
        refine hK.out _ _ ⟨(blk_cell BK435.out 0).trans rfl, (blk_cell BK435.out 1).trans rfl, (blk_cell BK417.out 0).trans rfl, (blk_cell BK417.out 1).trans rfl⟩ (fun hHeld => ?_)
        clear hK K
        refine norm_ (a' := ?_) ?_ ?_
        rotate_left
        ·show Act.put _ (some 61) _ = _
         simp only [Act.put, List.setIfInBounds_toArray, List.set_cons_zero, List.set_cons_succ, i64_w, i32_w]
         rfl
        refine puz_ 4 (some 62) #[true,true,true,true,true] rfl rfl (by kernel_rfl) ?_
        refine done_ (by kernel_rfl) ?_
        go_upto_region 21 with (first | ((with_reducible refine gate_callee (f := 38) rfl ?_); refine goesL_ (some 65) rfl rfl Try.func38 (by kernel_rfl) rfl #[.slice A2 l2.length c2] rfl mp_ ?_; (with_reducible refine (laws_toSpotS.calls kj19 _ _ l2 t449 _ ?side1 ?side2 A52.out).mono ?_); (case side1 => exact ca_ (Kd.C_below HR2.out HB.out)); (case side2 => exact HC2.out); rintro e w62 ⟨v450, rfl, ho0, hb⟩; refine ⟨_, rfl, ?_⟩; have n0_ := Aside0.mk (Kd.R_below (ra_ HO_8.out) hb); have n1_ := Aside0.mk (Kd.R_elder' (ra_ HO_11.out) (Kd.R_base ho0) hb); have n2_ := Aside0.mk (Kd.R_below (ra_ HO_12.out) hb); have n3_ := Aside0.mk (Kd.R_below (ra_ HO_436001.out) hb); have n4_ := Aside0.mk (Kd.R_below (ra_ HO447.out) hb); have n5_ := Aside0.mk (Kd.R_lower (Kd.R_new' ho0 (Kd.R_lt (ra_ HO_11.out))) (below_size (bl2_ HB.out GE417.out GE435.out))); have n6_ := Aside0.mk (blk_below (g := gb417) (o := .cells #[.int .i64 a0_0, .slice A0_1 l0_1.length c0_1] 24 (0, 0)) (bk_ BK417.out) hb); have n7_ := Aside0.mk (blk_below (g := gb435) (o := .cells #[.int .i64 t431, .slice Ao35 t432.length co35] 29 (0, 0)) (bk_ BK435.out) hb); have n8_ := Aside0.mk (below_step (bl2_ HB.out GE417.out GE435.out) hb); clear HO_8; clear HO_11; clear HO_12; clear HO_436001; clear HO447; clear BK417; clear BK435; clear HB; have HO_8 := n0_; have HO_11 := n1_; have HO_12 := n2_; have HO_436001 := n3_; have HO447 := n4_; have HO451 := n5_; have BK417 := n6_; have BK435 := n7_; have HB := n8_; clear n0_ n1_ n2_ n3_ n4_ n5_ n6_ n7_ n8_; (try clear hb); (try clear hb2); (try clear hk); (try clear hi); (try clear ho0); obtain ⟨Ao63, co63, eo63⟩ := Kd.R_slice HO451.out; subst eo63) | ((with_reducible refine gate_callee (f := 40) rfl ?_); refine goesL_ (some 66) rfl rfl Try.func40 (by kernel_rfl) rfl #[.slice Ao38 t436.length co38, .slice Ao63 t449.length co63] rfl mp_ ?_; (with_reducible refine (laws_eqSpotS.calls kj19 _ _ t436 _ _ t449 true _ ?side1 ?side2 ?side3 ?side4 A53.out).mono ?_); (case side1 => exact ca_ (Kd.R_reads' HO_11.out).2.2); (case side2 => exact (Kd.R_reads' HO_11.out).2.1); (case side3 => exact ca_ (Kd.R_reads' HO451.out).2.2); (case side4 => exact (Kd.R_reads' HO451.out).2.1); rintro e w64 ⟨rfl, hb⟩; refine ⟨_, rfl, ?_⟩; have n0_ := Aside0.mk (Kd.R_below (ra_ HO_8.out) hb); have n1_ := Aside0.mk (Kd.R_below (ra_ HO_11.out) hb); have n2_ := Aside0.mk (Kd.R_below (ra_ HO_12.out) hb); have n3_ := Aside0.mk (Kd.R_below (ra_ HO_436001.out) hb); have n4_ := Aside0.mk (Kd.R_below (ra_ HO447.out) hb); have n5_ := Aside0.mk (Kd.R_below (ra_ HO451.out) hb); have n6_ := Aside0.mk (blk_below (g := gb417) (o := .cells #[.int .i64 a0_0, .slice A0_1 l0_1.length c0_1] 24 (0, 0)) (bk_ BK417.out) hb); have n7_ := Aside0.mk (blk_below (g := gb435) (o := .cells #[.int .i64 t431, .slice Ao35 t432.length co35] 29 (0, 0)) (bk_ BK435.out) hb); have n8_ := Aside0.mk (below_step (bl2_ HB.out GE417.out GE435.out) hb); clear HO_8; clear HO_11; clear HO_12; clear HO_436001; clear HO447; clear HO451; clear BK417; clear BK435; clear HB; have HO_8 := n0_; have HO_11 := n1_; have HO_12 := n2_; have HO_436001 := n3_; have HO447 := n4_; have HO451 := n5_; have BK417 := n6_; have BK435 := n7_; have HB := n8_; clear n0_ n1_ n2_ n3_ n4_ n5_ n6_ n7_ n8_; (try clear hb); (try clear hb2); (try clear hk); (try clear hi); have hnb65 := NB435_417.out; have hnc65 := NB417_435.out; have hcz66_0 : w64.cell? ⟨gb435, 0, none⟩ = some (.int .i64 t431) := (blk_cell BK435.out 0).trans rfl; have hcz66_1 : w64.cell? ⟨gb435, 1, none⟩ = some (.slice Ao35 t432.length co35) := (blk_cell BK435.out 1).trans rfl; have hfz66_0 := blk_frozen BK435.out 0; have hfz66_1 := blk_frozen BK435.out 1) | ((with_reducible refine gate_callee (f := 26) rfl ?_); refine goesL_ (some 70) rfl rfl Try.func26 (by kernel_rfl) rfl #[.agg #[.int .i64 t431, .slice Ao35 t432.length co35], .int .i64 1] rfl mp_ ?_; (with_reducible refine (laws_markTree.calls kj19 t431 (fun k_ => some k_ = (.slice Ao35 t432.length co35 : Value).ownBlock) (.slice Ao35 t432.length co35) t432 1 t453 t454 w _ ?side1 ?side2 A55.out).mono ?_); (case side1 => repeat (first | (with_reducible first | exact HB.out | apply below_alloc | apply pw_below_drewN | apply below_drew1 | refine below_set ?_ GE417.out | refine below_set ?_ GE435.out) | exact HB.out)); (case side2 => exact Kd.R_tight rfl HO_436001.out); rintro e w67 ⟨rfl, hy0, hb, hkp⟩; refine ⟨_, rfl, ?_⟩; have n0_ := Aside0.mk (Kd.R_mono (ok' := fun k_ => some k_ ≠ (v440 : Value).ownBlock) (Kd.R_keptB ((Kd.R_apart' HO_8.out (Kd.R_typed HO_436001.out) (by decide))) hkp (fun k_ hk_ hs_ => (hk_.2) hs_)) (fun k_ hk_ => hk_.1.1)); have n1_ := Aside0.mk (Kd.R_mono (ok' := fun k_ => some k_ ≠ (.slice Ao63 t449.length co63 : Value).ownBlock) (Kd.R_keptB ((Kd.R_apart' HO_11.out (Kd.R_typed HO_436001.out) (by decide))) hkp (fun k_ hk_ hs_ => (hk_.2) hs_)) (fun k_ hk_ => hk_.1.1.2)); have n2_ := Aside0.mk (Kd.R_mono (ok' := fun k_ => some k_ ≠ (v428 : Value).ownBlock) (Kd.R_keptB ((Kd.R_apart' HO_12.out (Kd.R_typed HO_436001.out) (by decide))) hkp (fun k_ hk_ hs_ => (hk_.2) hs_)) (fun k_ hk_ => hk_.1.1)); have n3_ := Aside0.mk (Kd.R_reok rfl hy0 (fun k_ e_ => HO_436001.out.1 k_ e_)); have n4_ := Aside0.mk (blk_kept (bk_ BK417.out) hkp (fun hs_ => (fun e_ => (Kd.R_ne HO_436001.out BK417.out (by decide)) e_) hs_)); have n5_ := Aside0.mk (blk_kept (bk_ BK435.out) hkp (fun hs_ => (fun e_ => (Kd.R_ne HO_436001.out BK435.out (by decide)) e_) hs_)); have n6_ := Aside0.mk (Kd.R_mono (ok' := fun k_ => some k_ ≠ (.slice Ao35 t432.length co35 : Value).ownBlock) (Kd.R_keptB (HO447.out) hkp (fun k_ hk_ hs_ => (hk_.2) hs_)) (fun k_ hk_ => hk_.1.2)); have n7_ := Aside0.mk (Kd.R_mono (ok' := fun k_ => some k_ ≠ (.slice Ao38 t436.length co38 : Value).ownBlock) (Kd.R_keptB ((Kd.R_apart' HO451.out (Kd.R_typed HO_436001.out) (by decide))) hkp (fun k_ hk_ hs_ => (hk_.2) hs_)) (fun k_ hk_ => hk_.1.1.2)); have n8_ := Aside0.mk (hb); clear HO_8; clear HO_11; clear HO_12; clear HO_436001; clear BK417; clear BK435; clear HO447; clear HO451; clear HB; have HO_8 := n0_; have HO_11 := n1_; have HO_12 := n2_; have HO_436001 := n3_; have BK417 := n4_; have BK435 := n5_; have HO447 := n6_; have HO451 := n7_; have HB := n8_; clear n0_ n1_ n2_ n3_ n4_ n5_ n6_ n7_ n8_; (try clear hb); (try clear hkp); (try clear hy0)) | ((with_reducible refine gate_callee (f := 45) rfl ?_); refine goesL_ (some 73) rfl rfl Try.func45 (by kernel_rfl) rfl #[.slice Ao38 t436.length co38, .int .i64 t453] rfl mp_ ?_; (with_reducible refine (laws_markSpotS.calls kj19 (fun k_ => some k_ = (.slice Ao38 t436.length co38 : Value).ownBlock) (.slice Ao38 t436.length co38) t436 t453 t455 t456 w _ ?side1 ?side2 A56.out).mono ?_); (case side1 => repeat (first | (with_reducible first | exact HB.out | apply below_alloc | apply pw_below_drewN | apply below_drew1 | refine below_set ?_ GE417.out | refine below_set ?_ GE435.out) | exact HB.out)); (case side2 => exact Kd.R_tight rfl HO_11.out); rintro e w68 ⟨rfl, hy0, hb, hkp⟩; refine ⟨_, rfl, ?_⟩; have n0_ := Aside0.mk (Kd.R_mono (ok' := fun k_ => some k_ ≠ (v440 : Value).ownBlock) (Kd.R_keptB ((Kd.R_apart' HO_8.out (Kd.R_typed HO_11.out) (by decide))) hkp (fun k_ hk_ hs_ => (hk_.2) hs_)) (fun k_ hk_ => hk_.1.1)); have n1_ := Aside0.mk (Kd.R_reok rfl hy0 (fun k_ e_ => HO_11.out.1 k_ e_)); have n2_ := Aside0.mk (Kd.R_mono (ok' := fun k_ => some k_ ≠ (v428 : Value).ownBlock) (Kd.R_keptB ((Kd.R_apart' HO_12.out (Kd.R_typed HO_11.out) (by decide))) hkp (fun k_ hk_ hs_ => (hk_.2) hs_)) (fun k_ hk_ => hk_.1.1)); have n3_ := Aside0.mk (Kd.R_mono (ok' := fun k_ => some k_ ≠ (.slice Ao60 t445.length co60 : Value).ownBlock) (Kd.R_keptB ((Kd.R_apart' HO_436001.out (Kd.R_typed HO_11.out) (by decide))) hkp (fun k_ hk_ hs_ => (hk_.2) hs_)) (fun k_ hk_ => hk_.1.1.2)); have n4_ := Aside0.mk (blk_kept (bk_ BK417.out) hkp (fun hs_ => (fun e_ => (Kd.R_ne HO_11.out BK417.out (by decide)) e_) hs_)); have n5_ := Aside0.mk (blk_kept (bk_ BK435.out) hkp (fun hs_ => (fun e_ => (Kd.R_ne HO_11.out BK435.out (by decide)) e_) hs_)); have n6_ := Aside0.mk (Kd.R_mono (ok' := fun k_ => some k_ ≠ (.slice Ao35 t432.length co35 : Value).ownBlock) (Kd.R_keptB ((Kd.R_apart' HO447.out (Kd.R_typed HO_11.out) (by decide))) hkp (fun k_ hk_ hs_ => (hk_.2) hs_)) (fun k_ hk_ => hk_.1.1)); have n7_ := Aside0.mk (Kd.R_mono (ok' := fun k_ => some k_ ≠ (.slice Ao38 t436.length co38 : Value).ownBlock) (Kd.R_keptB (HO451.out) hkp (fun k_ hk_ hs_ => (hk_) hs_)) (fun k_ hk_ => hk_.1)); have n8_ := Aside0.mk (hb); clear HO_8; clear HO_11; clear HO_12; clear HO_436001; clear BK417; clear BK435; clear HO447; clear HO451; clear HB; have HO_8 := n0_; have HO_11 := n1_; have HO_12 := n2_; have HO_436001 := n3_; have BK417 := n4_; have BK435 := n5_; have HO447 := n6_; have HO451 := n7_; have HB := n8_; clear n0_ n1_ n2_ n3_ n4_ n5_ n6_ n7_ n8_; (try clear hb); (try clear hkp); (try clear hy0)))
        (try simp only [Act.put, List.setIfInBounds_toArray, List.set_cons_zero, List.set_cons_succ])
        go_cut [86] (fun v86 wc => ∃ (kq : Nat) (x86_56 : Bool), v86 = .bool x86_56 ∧ Aside0 (laws_FnExactActivePairs.j1 kq a1 l2 t427 t430 t439 x86_56 a0_0 l0_1 = some r) ∧ Aside0 (kq ≤ kj19) ∧ Aside0 (Kd.R k97 97 wc w.heap.size (fun k_ => some k_ ≠ (v440 : Value).ownBlock) v428 t427) ∧ Aside0 (Kd.R k97 97 wc w.heap.size (fun k_ => some k_ ≠ (v428 : Value).ownBlock) v440 t439) ∧ Aside0 (Kd.R k71 71 wc w.heap.size (fun _ => True) (.slice Ao35 t432.length co35) t454) ∧ Aside0 (wc.heap[gb417]? = some (.cells #[.int .i64 a0_0, (.slice A0_1 l0_1.length c0_1)] 24 (0, 0))) ∧ Aside0 (wc.heap[gb435]? = some (.cells #[.int .i64 t431, (.slice Ao35 t432.length co35)] 29 (0, 0))) ∧ Aside0 (Below w.heap.size w wc))
        case first =>
         have H := HC57.out
         clear HC57
         by_cases c69 : t455 < 0
         ·rw [if_pos c69] at H
          have c69b0 := decide_eq_true c69
          clear c69
          (first | rw [c69b0] | (simp only [i64_w, i32_w]; rw [c69b0]) | skip)
          have H' := Aside0.mk H
          clear H
          go_wp2
          go_meet
          case rel => exact ⟨_, (true), rs_, H', ⟨by have := HJ19.out; first | omega | exact Nat.le_refl _⟩, ⟨ra_ HO_8.out⟩, ⟨ra_ HO_12.out⟩, ⟨by (with_reducible repeat (first | apply Kd.R_alloc | apply Kd.R_drewN | apply Kd.R_drew)); exact Kd.R_mono HO_436001.out (fun _ hk => trivial)⟩, ⟨bk_ BK417.out⟩, ⟨bk_ BK435.out⟩, ⟨bl2_ HB.out GE417.out GE435.out⟩⟩
         ·rw [if_neg c69] at H
          have c69b0 := decide_eq_false c69
          clear c69
          (first | rw [c69b0] | (simp only [i64_w, i32_w]; rw [c69b0]) | skip)
          replace H := Option.bind_eq_some_iff.mp H
          obtain ⟨t457, A700, H⟩ := H
          replace H : (if t457 = true then (laws_FnExactActivePairs.j1 kj19 a1 l2 t427 t430 t439 (t442 != t430) a0_0 l0_1) else (laws_FnExactActivePairs.j1 kj19 a1 l2 t427 t430 t439 true a0_0 l0_1)) = some r := H
          have A70 := Aside0.mk A700
          clear A700
          by_cases c71 : t457 = true
          ·subst c71
           have H1 : (laws_FnExactActivePairs.j1 kj19 a1 l2 t427 t430 t439 (t442 != t430) a0_0 l0_1) = some r := by rw [if_pos rfl] at H; exact H
           clear H
           have H := H1
           clear H1
           have H' := Aside0.mk H
           clear H
           obtain ⟨Ao72, co72, eo72⟩ := Kd.R_slice HO_12.out
           subst eo72
           obtain ⟨Ao73, co73, eo73⟩ := Kd.R_slice HO_8.out
           subst eo73
           go_wp2_with (first | (go_at_call 49; (with_reducible refine (laws_eqPairS.calls kj19 _ _ t439 _ _ t427 true _ ?side1 ?side2 ?side3 ?side4 A70.out).mono ?_); (case side1 => exact ca_ (Kd.R_reads' HO_12.out).2.2); (case side2 => exact (Kd.R_reads' HO_12.out).2.1); (case side3 => exact ca_ (Kd.R_reads' HO_8.out).2.2); (case side4 => exact (Kd.R_reads' HO_8.out).2.1); rintro e w74 ⟨rfl, hb⟩; have n0_ := Aside0.mk (Kd.R_below (ra_ HO_8.out) hb); have n1_ := Aside0.mk (Kd.R_below (ra_ HO_11.out) hb); have n2_ := Aside0.mk (Kd.R_below (ra_ HO_12.out) hb); have n3_ := Aside0.mk (Kd.R_below (ra_ HO_436001.out) hb); have n4_ := Aside0.mk (Kd.R_below (ra_ HO447.out) hb); have n5_ := Aside0.mk (Kd.R_below (ra_ HO451.out) hb); have n6_ := Aside0.mk (blk_below (g := gb417) (o := .cells #[.int .i64 a0_0, .slice A0_1 l0_1.length c0_1] 24 (0, 0)) (bk_ BK417.out) hb); have n7_ := Aside0.mk (blk_below (g := gb435) (o := .cells #[.int .i64 t431, .slice Ao35 t432.length co35] 29 (0, 0)) (bk_ BK435.out) hb); have n8_ := Aside0.mk (below_step (bl2_ HB.out GE417.out GE435.out) hb); clear HO_8; clear HO_11; clear HO_12; clear HO_436001; clear HO447; clear HO451; clear BK417; clear BK435; clear HB; have HO_8 := n0_; have HO_11 := n1_; have HO_12 := n2_; have HO_436001 := n3_; have HO447 := n4_; have HO451 := n5_; have BK417 := n6_; have BK435 := n7_; have HB := n8_; clear n0_ n1_ n2_ n3_ n4_ n5_ n6_ n7_ n8_; (try clear hb); (try clear hb2); (try clear hk); (try clear hi)))
           go_meet
           case rel => exact ⟨_, ((t442 != t430)), rs_, H', ⟨by have := HJ19.out; first | omega | exact Nat.le_refl _⟩, ⟨ra_ HO_8.out⟩, ⟨ra_ HO_12.out⟩, ⟨by (with_reducible repeat (first | apply Kd.R_alloc | apply Kd.R_drewN | apply Kd.R_drew)); exact Kd.R_mono HO_436001.out (fun _ hk => trivial)⟩, ⟨bk_ BK417.out⟩, ⟨bk_ BK435.out⟩, ⟨bl2_ HB.out GE417.out GE435.out⟩⟩
          ·replace c71 := Bool.eq_false_iff.mpr c71
           subst c71
           have H1 : (laws_FnExactActivePairs.j1 kj19 a1 l2 t427 t430 t439 true a0_0 l0_1) = some r := by rw [if_neg (show ¬ (false = true) by decide)] at H; exact H
           clear H
           have H := H1
           clear H1
           have H' := Aside0.mk H
           clear H
           obtain ⟨Ao75, co75, eo75⟩ := Kd.R_slice HO_12.out
           subst eo75
           obtain ⟨Ao76, co76, eo76⟩ := Kd.R_slice HO_8.out
           subst eo76
           go_wp2_with (first | (go_at_call 49; (with_reducible refine (laws_eqPairS.calls kj19 _ _ t439 _ _ t427 false _ ?side1 ?side2 ?side3 ?side4 A70.out).mono ?_); (case side1 => exact ca_ (Kd.R_reads' HO_12.out).2.2); (case side2 => exact (Kd.R_reads' HO_12.out).2.1); (case side3 => exact ca_ (Kd.R_reads' HO_8.out).2.2); (case side4 => exact (Kd.R_reads' HO_8.out).2.1); rintro e w77 ⟨rfl, hb⟩; have n0_ := Aside0.mk (Kd.R_below (ra_ HO_8.out) hb); have n1_ := Aside0.mk (Kd.R_below (ra_ HO_11.out) hb); have n2_ := Aside0.mk (Kd.R_below (ra_ HO_12.out) hb); have n3_ := Aside0.mk (Kd.R_below (ra_ HO_436001.out) hb); have n4_ := Aside0.mk (Kd.R_below (ra_ HO447.out) hb); have n5_ := Aside0.mk (Kd.R_below (ra_ HO451.out) hb); have n6_ := Aside0.mk (blk_below (g := gb417) (o := .cells #[.int .i64 a0_0, .slice A0_1 l0_1.length c0_1] 24 (0, 0)) (bk_ BK417.out) hb); have n7_ := Aside0.mk (blk_below (g := gb435) (o := .cells #[.int .i64 t431, .slice Ao35 t432.length co35] 29 (0, 0)) (bk_ BK435.out) hb); have n8_ := Aside0.mk (below_step (bl2_ HB.out GE417.out GE435.out) hb); clear HO_8; clear HO_11; clear HO_12; clear HO_436001; clear HO447; clear HO451; clear BK417; clear BK435; clear HB; have HO_8 := n0_; have HO_11 := n1_; have HO_12 := n2_; have HO_436001 := n3_; have HO447 := n4_; have HO451 := n5_; have BK417 := n6_; have BK435 := n7_; have HB := n8_; clear n0_ n1_ n2_ n3_ n4_ n5_ n6_ n7_ n8_; (try clear hb); (try clear hb2); (try clear hk); (try clear hi)))
           go_meet
           case rel => exact ⟨_, (true), rs_, H', ⟨by have := HJ19.out; first | omega | exact Nat.le_refl _⟩, ⟨ra_ HO_8.out⟩, ⟨ra_ HO_12.out⟩, ⟨by (with_reducible repeat (first | apply Kd.R_alloc | apply Kd.R_drewN | apply Kd.R_drew)); exact Kd.R_mono HO_436001.out (fun _ hk => trivial)⟩, ⟨bk_ BK417.out⟩, ⟨bk_ BK435.out⟩, ⟨bl2_ HB.out GE417.out GE435.out⟩⟩
        case rest =>
         clear HC57
         try clear c1
         try clear c2
         try clear p2
         try clear c3
         try clear c4
         try clear c5
         try clear c5b0
         try clear c6
         try clear c7
         try clear c10
         try clear c10b0
         try clear c12
         try clear c14
         try clear c16
         try clear c18
         try clear c26
         try clear c33
         try clear c36
         try clear c38
         try clear c40
         try clear c41
         try clear c45
         try clear c47
         try clear c48
         try clear c49
         try clear c51
         try clear c54
         try clear c65
         try clear c69
         try clear c69b0
         try clear c71
         try clear hcz12_0
         try clear hcz12_1
         try clear hcz22_0
         try clear hcz22_1
         try clear hcz24_0
         try clear hcz24_1
         try clear hcz30_0
         try clear hcz30_1
         try clear hcz34_0
         try clear hcz34_1
         try clear hcz37_0
         try clear hcz37_1
         try clear hcz66_0
         try clear hcz66_1
         try clear hcz7_0
         try clear hcz7_1
         try clear hfz12_0
         try clear hfz12_1
         try clear hfz22_0
         try clear hfz22_1
         try clear hfz24_0
         try clear hfz24_1
         try clear hfz30_0
         try clear hfz30_1
         try clear hfz34_0
         try clear hfz34_1
         try clear hfz37_0
         try clear hfz37_1
         try clear hfz66_0
         try clear hfz66_1
         try clear hfz7_0
         try clear hfz7_1
         try clear p2
         obtain ⟨kq, x86_56, rfl, HA, HJ56, HO_8, HO_12, HO_436001, BK417, BK435, HB⟩ := hcut
         have hl436001_56 := (Kd.R_reads' HO_436001.out).1
         rw [hl436001_56] at HO_436001
         (try simp only [hl436001_56])
         (try simp only [hl436001_56] at BK417)
         (try simp only [hl436001_56] at BK435)
         (try simp only [hl436001_56] at HO_8)
         (try simp only [hl436001_56] at HO_12)
         cases kq with
         | zero => exact absurd HA.out (by simp [laws_FnExactActivePairs.j1])
         | succ kj56 =>
          have H := HA.out
          clear HA
          simp only [laws_FnExactActivePairs.j1] at H
          by_cases c78 : x86_56 = true
          ·subst c78
           have H1 : (some false) = some r := by rw [if_pos rfl] at H; exact H
           clear H
           have H := H1
           clear H1
           obtain rfl := Option.some.inj H
           go_wp2
           go_ret
           exact ⟨re_, bl2_ HB.out GE417.out GE435.out⟩
          ·replace c78 := Bool.eq_false_iff.mpr c78
           subst c78
           have H1 : ((laws_markPairS.f kj56 t439 1).bind fun bt458 => ((laws_heldPairS.f kj56 bt458.2 1).bind fun t460 => (if t460 < 0 then (some false) else (if t460 = bt458.1 then ((laws_toTree.f kj56 a0_0 l0_1).bind fun bt461 => ((laws_toSpotS.f kj56 l2).bind fun t465 => ((impl_ActivePairs.f kj56 bt461.1 bt461.2 a1 t465).bind fun bt468 => ((laws_eqPairS.f kj56 bt468.1 t427).bind fun t472 => (if t472 = true then (laws_FnExactActivePairs.j2 kj56 bt458.2 bt458.1 (bt468.2 != t430)) else (laws_FnExactActivePairs.j2 kj56 bt458.2 bt458.1 true)))))) else (some false))))) = some r := by rw [if_neg (show ¬ (false = true) by decide)] at H; exact H
           clear H
           have H := H1
           clear H1
           replace H := Option.bind_eq_some_iff.mp H
           obtain ⟨⟨t458, t459⟩, A790, H⟩ := H
           replace H : ((laws_heldPairS.f kj56 t459 1).bind fun t460 => (if t460 < 0 then (some false) else (if t460 = t458 then ((laws_toTree.f kj56 a0_0 l0_1).bind fun bt461 => ((laws_toSpotS.f kj56 l2).bind fun t465 => ((impl_ActivePairs.f kj56 bt461.1 bt461.2 a1 t465).bind fun bt468 => ((laws_eqPairS.f kj56 bt468.1 t427).bind fun t472 => (if t472 = true then (laws_FnExactActivePairs.j2 kj56 t459 t458 (bt468.2 != t430)) else (laws_FnExactActivePairs.j2 kj56 t459 t458 true)))))) else (some false)))) = some r := H
           have A79 := Aside0.mk A790
           clear A790
           replace H := Option.bind_eq_some_iff.mp H
           obtain ⟨t460, A800, H⟩ := H
           replace H : (if t460 < 0 then (some false) else (if t460 = t458 then ((laws_toTree.f kj56 a0_0 l0_1).bind fun bt461 => ((laws_toSpotS.f kj56 l2).bind fun t465 => ((impl_ActivePairs.f kj56 bt461.1 bt461.2 a1 t465).bind fun bt468 => ((laws_eqPairS.f kj56 bt468.1 t427).bind fun t472 => (if t472 = true then (laws_FnExactActivePairs.j2 kj56 t459 t458 (bt468.2 != t430)) else (laws_FnExactActivePairs.j2 kj56 t459 t458 true)))))) else (some false))) = some r := H
           have A80 := Aside0.mk A800
           clear A800
           by_cases c81 : t460 < 0
           ·rw [if_pos c81] at H
            have c81b0 := decide_eq_true c81
            clear c81
            obtain rfl := Option.some.inj H
            obtain ⟨Ao82, co82, eo82⟩ := Kd.R_slice HO_12.out
            subst eo82
            go_wp2_with (first | ((with_reducible refine gate_callee (f := 50) rfl ?_); refine goesL_ (some 89) rfl rfl Try.func50 (by kernel_rfl) rfl #[.slice Ao82 t439.length co82, .int .i64 1] rfl mp_ ?_; (with_reducible refine (laws_markPairS.calls kj56 (fun k_ => some k_ = (.slice Ao82 t439.length co82 : Value).ownBlock) (.slice Ao82 t439.length co82) t439 1 t458 t459 w _ ?side1 ?side2 A79.out).mono ?_); (case side1 => repeat (first | (with_reducible first | exact HB.out | apply below_alloc | apply pw_below_drewN | apply below_drew1 | refine below_set ?_ GE417.out | refine below_set ?_ GE435.out) | exact HB.out)); (case side2 => exact Kd.R_tight rfl HO_12.out); rintro e w83 ⟨rfl, hy0, hb, hkp⟩; refine ⟨_, rfl, ?_⟩; have n0_ := Aside0.mk (Kd.R_mono (ok' := fun k_ => some k_ ≠ (.slice Ao82 t439.length co82 : Value).ownBlock) (Kd.R_keptB (HO_8.out) hkp (fun k_ hk_ hs_ => (hk_) hs_)) (fun k_ hk_ => hk_.1)); have n1_ := Aside0.mk (Kd.R_reok rfl hy0 (fun k_ e_ => HO_12.out.1 k_ e_)); have n2_ := Aside0.mk (Kd.R_mono (ok' := fun k_ => True) (Kd.R_keptB ((Kd.R_apart' HO_436001.out (Kd.R_typed HO_12.out) (by decide))) hkp (fun k_ hk_ hs_ => (hk_.2) hs_)) (fun k_ hk_ => trivial)); have n3_ := Aside0.mk (blk_kept (bk_ BK417.out) hkp (fun hs_ => (fun e_ => (Kd.R_ne HO_12.out BK417.out (by decide)) e_) hs_)); have n4_ := Aside0.mk (blk_kept (bk_ BK435.out) hkp (fun hs_ => (fun e_ => (Kd.R_ne HO_12.out BK435.out (by decide)) e_) hs_)); have n5_ := Aside0.mk (hb); clear HO_8; clear HO_12; clear HO_436001; clear BK417; clear BK435; clear HB; have HO_8 := n0_; have HO_12 := n1_; have HO_436001 := n2_; have BK417 := n3_; have BK435 := n4_; have HB := n5_; clear n0_ n1_ n2_ n3_ n4_ n5_; (try clear hb); (try clear hkp); (try clear hy0)) | ((with_reducible refine gate_callee (f := 51) rfl ?_); refine goesL_ (some 92) rfl rfl Try.func51 (by kernel_rfl) rfl #[.slice Ao82 t459.length co82, .int .i64 1] rfl (by (try simp only [List.map_toArray, List.map_cons, List.map_nil]); first | done | (rw [show t459.length = t439.length from (Kd.R_reads' HO_12.out).1.symm] <;> rfl) | rfl | (simp only [List.length_drop, List.length_take]; rfl)) ?_; (with_reducible refine (laws_heldPairS.calls kj56 _ _ t459 1 t460 _ ?side1 ?side2 A80.out).mono ?_); (case side1 => exact ca_ (Kd.R_reads' HO_12.out).2.2); (case side2 => rw [show t459.length = t439.length from (Kd.R_reads' HO_12.out).1.symm]; exact (Kd.R_reads' HO_12.out).2.1); rintro e w' ⟨rfl, ⟨nd, rfl⟩⟩; refine ⟨_, rfl, ?_⟩))
            go_ret
            exact ⟨re_, bl2_ HB.out GE417.out GE435.out⟩
           ·rw [if_neg c81] at H
            have c81b0 := decide_eq_false c81
            clear c81
            by_cases c84 : t460 = t458
            ·rw [if_pos c84] at H
             have c84b0 : (t460 == t458) = true := beq_iff_eq.mpr c84
             have c84b1 : (t460 != t458) = false := bne_eq_false_iff_eq.mpr c84
             clear c84
             replace H := Option.bind_eq_some_iff.mp H
             obtain ⟨⟨t461, t462⟩, A850, H⟩ := H
             replace H : ((laws_toSpotS.f kj56 l2).bind fun t465 => ((impl_ActivePairs.f kj56 t461 t462 a1 t465).bind fun bt468 => ((laws_eqPairS.f kj56 bt468.1 t427).bind fun t472 => (if t472 = true then (laws_FnExactActivePairs.j2 kj56 t459 t458 (bt468.2 != t430)) else (laws_FnExactActivePairs.j2 kj56 t459 t458 true))))) = some r := H
             have A85 := Aside0.mk A850
             clear A850
             replace H := Option.bind_eq_some_iff.mp H
             obtain ⟨t465, A860, H⟩ := H
             replace H : ((impl_ActivePairs.f kj56 t461 t462 a1 t465).bind fun bt468 => ((laws_eqPairS.f kj56 bt468.1 t427).bind fun t472 => (if t472 = true then (laws_FnExactActivePairs.j2 kj56 t459 t458 (bt468.2 != t430)) else (laws_FnExactActivePairs.j2 kj56 t459 t458 true)))) = some r := H
             have A86 := Aside0.mk A860
             clear A860
             replace H := Option.bind_eq_some_iff.mp H
             obtain ⟨⟨t468, t471⟩, A870, H⟩ := H
             replace H : ((laws_eqPairS.f kj56 t468 t427).bind fun t472 => (if t472 = true then (laws_FnExactActivePairs.j2 kj56 t459 t458 (t471 != t430)) else (laws_FnExactActivePairs.j2 kj56 t459 t458 true))) = some r := H
             have A87 := Aside0.mk A870
             clear A870
             have HC88 := Aside0.mk H
             clear H
             obtain ⟨Ao89, co89, eo89⟩ := Kd.R_slice HO_12.out
             subst eo89
             go_upto_region 32 with (first | ((with_reducible refine gate_callee (f := 50) rfl ?_); refine goesL_ (some 89) rfl rfl Try.func50 (by kernel_rfl) rfl #[.slice Ao89 t439.length co89, .int .i64 1] rfl mp_ ?_; (with_reducible refine (laws_markPairS.calls kj56 (fun k_ => some k_ = (.slice Ao89 t439.length co89 : Value).ownBlock) (.slice Ao89 t439.length co89) t439 1 t458 t459 w _ ?side1 ?side2 A79.out).mono ?_); (case side1 => repeat (first | (with_reducible first | exact HB.out | apply below_alloc | apply pw_below_drewN | apply below_drew1 | refine below_set ?_ GE417.out | refine below_set ?_ GE435.out) | exact HB.out)); (case side2 => exact Kd.R_tight rfl HO_12.out); rintro e w90 ⟨rfl, hy0, hb, hkp⟩; refine ⟨_, rfl, ?_⟩; have n0_ := Aside0.mk (Kd.R_mono (ok' := fun k_ => some k_ ≠ (.slice Ao89 t439.length co89 : Value).ownBlock) (Kd.R_keptB (HO_8.out) hkp (fun k_ hk_ hs_ => (hk_) hs_)) (fun k_ hk_ => hk_.1)); have n1_ := Aside0.mk (Kd.R_reok rfl hy0 (fun k_ e_ => HO_12.out.1 k_ e_)); have n2_ := Aside0.mk (Kd.R_mono (ok' := fun k_ => True) (Kd.R_keptB ((Kd.R_apart' HO_436001.out (Kd.R_typed HO_12.out) (by decide))) hkp (fun k_ hk_ hs_ => (hk_.2) hs_)) (fun k_ hk_ => trivial)); have n3_ := Aside0.mk (blk_kept (bk_ BK417.out) hkp (fun hs_ => (fun e_ => (Kd.R_ne HO_12.out BK417.out (by decide)) e_) hs_)); have n4_ := Aside0.mk (blk_kept (bk_ BK435.out) hkp (fun hs_ => (fun e_ => (Kd.R_ne HO_12.out BK435.out (by decide)) e_) hs_)); have n5_ := Aside0.mk (hb); clear HO_8; clear HO_12; clear HO_436001; clear BK417; clear BK435; clear HB; have HO_8 := n0_; have HO_12 := n1_; have HO_436001 := n2_; have BK417 := n3_; have BK435 := n4_; have HB := n5_; clear n0_ n1_ n2_ n3_ n4_ n5_; (try clear hb); (try clear hkp); (try clear hy0)) | ((with_reducible refine gate_callee (f := 51) rfl ?_); refine goesL_ (some 92) rfl rfl Try.func51 (by kernel_rfl) rfl #[.slice Ao89 t459.length co89, .int .i64 1] rfl (by (try simp only [List.map_toArray, List.map_cons, List.map_nil]); first | done | (rw [show t459.length = t439.length from (Kd.R_reads' HO_12.out).1.symm] <;> rfl) | rfl | (simp only [List.length_drop, List.length_take]; rfl)) ?_; (with_reducible refine (laws_heldPairS.calls kj56 _ _ t459 1 t460 _ ?side1 ?side2 A80.out).mono ?_); (case side1 => exact ca_ (Kd.R_reads' HO_12.out).2.2); (case side2 => rw [show t459.length = t439.length from (Kd.R_reads' HO_12.out).1.symm]; exact (Kd.R_reads' HO_12.out).2.1); rintro e w' ⟨rfl, ⟨nd, rfl⟩⟩; refine ⟨_, rfl, ?_⟩; have hnb91 := NB417_435.out; have hnc91 := NB435_417.out; have hcz92_0 : w90.cell? ⟨gb417, 0, none⟩ = some (.int .i64 a0_0) := (blk_cell BK417.out 0).trans rfl; have hcz92_1 : w90.cell? ⟨gb417, 1, none⟩ = some (.slice A0_1 l0_1.length c0_1) := (blk_cell BK417.out 1).trans rfl; have hfz92_0 := blk_frozen BK417.out 0; have hfz92_1 := blk_frozen BK417.out 1) | ((with_reducible refine gate_callee (f := 16) rfl ?_); refine goesL_ (some 100) rfl rfl Try.func16 (by kernel_rfl) rfl #[.agg #[.int .i64 a0_0, .slice A0_1 l0_1.length c0_1]] rfl mp_ ?_; (with_reducible refine (laws_toTree.calls kj56 a0_0 _ _ l0_1 t461 t462 _ ?side1 ?side2 A85.out).mono ?_); (case side1 => exact ca_ (Kd.C_below HR0_1.out (bl2_ HB.out GE417.out GE435.out))); (case side2 => exact HC0_1.out); rintro e w93 ⟨v463, rfl, ho0, hb⟩; refine ⟨_, rfl, ?_⟩; have n0_ := Aside0.mk (Kd.R_below (ra_ HO_8.out) hb); have n1_ := Aside0.mk (Kd.R_below (ra_ HO_12.out) hb); have n2_ := Aside0.mk (Kd.R_elder' (ra_ HO_436001.out) (Kd.R_base ho0) hb); have n3_ := Aside0.mk (Kd.R_lower (Kd.R_new' ho0 (Kd.R_lt (ra_ HO_436001.out))) (below_size (bl2_ HB.out GE417.out GE435.out))); have n4_ := Aside0.mk (blk_below (g := gb417) (o := .cells #[.int .i64 a0_0, .slice A0_1 l0_1.length c0_1] 24 (0, 0)) (bk_ BK417.out) hb); have n5_ := Aside0.mk (blk_below (g := gb435) (o := .cells #[.int .i64 t431, .slice Ao35 t454.length co35] 29 (0, 0)) (bk_ BK435.out) hb); have n6_ := Aside0.mk (below_step (bl2_ HB.out GE417.out GE435.out) hb); clear HO_8; clear HO_12; clear HO_436001; clear BK417; clear BK435; clear HB; have HO_8 := n0_; have HO_12 := n1_; have HO_436001 := n2_; have HO464 := n3_; have BK417 := n4_; have BK435 := n5_; have HB := n6_; clear n0_ n1_ n2_ n3_ n4_ n5_ n6_; (try clear hb); (try clear hb2); (try clear hk); (try clear hi); (try clear ho0)) | ((with_reducible refine gate_callee (f := 38) rfl ?_); refine goesL_ (some 103) rfl rfl Try.func38 (by kernel_rfl) rfl #[.slice A2 l2.length c2] rfl mp_ ?_; (with_reducible refine (laws_toSpotS.calls kj56 _ _ l2 t465 _ ?side1 ?side2 A86.out).mono ?_); (case side1 => exact ca_ (Kd.C_below HR2.out HB.out)); (case side2 => exact HC2.out); rintro e w94 ⟨v466, rfl, ho0, hb⟩; refine ⟨_, rfl, ?_⟩; have n0_ := Aside0.mk (Kd.R_below (ra_ HO_8.out) hb); have n1_ := Aside0.mk (Kd.R_below (ra_ HO_12.out) hb); have n2_ := Aside0.mk (Kd.R_below (ra_ HO_436001.out) hb); have n3_ := Aside0.mk (Kd.R_below (ra_ HO464.out) hb); have n4_ := Aside0.mk (Kd.R_lower ho0 (below_size (bl2_ HB.out GE417.out GE435.out))); have n5_ := Aside0.mk (blk_below (g := gb417) (o := .cells #[.int .i64 a0_0, .slice A0_1 l0_1.length c0_1] 24 (0, 0)) (bk_ BK417.out) hb); have n6_ := Aside0.mk (blk_below (g := gb435) (o := .cells #[.int .i64 t431, .slice Ao35 t454.length co35] 29 (0, 0)) (bk_ BK435.out) hb); have n7_ := Aside0.mk (below_step (bl2_ HB.out GE417.out GE435.out) hb); clear HO_8; clear HO_12; clear HO_436001; clear HO464; clear BK417; clear BK435; clear HB; have HO_8 := n0_; have HO_12 := n1_; have HO_436001 := n2_; have HO464 := n3_; have HO467 := n4_; have BK417 := n5_; have BK435 := n6_; have HB := n7_; clear n0_ n1_ n2_ n3_ n4_ n5_ n6_ n7_; (try clear hb); (try clear hb2); (try clear hk); (try clear hi); (try clear ho0); obtain ⟨Ao95, co95, eo95⟩ := Kd.R_slice HO464.out; subst eo95; obtain ⟨Ao96, co96, eo96⟩ := Kd.R_slice HO467.out; subst eo96) | ((with_reducible refine gate_callee (f := 48) rfl ?_); refine goesL_ (some 104) rfl rfl Try.func48 (by kernel_rfl) rfl #[.agg #[.int .i64 t461, .slice Ao95 t462.length co95], .int .i64 a1, .slice Ao96 t465.length co96] rfl mp_ ?_; (with_reducible refine (impl_ActivePairs.calls kj56 t461 _ _ t462 a1 _ _ t465 t468 t471 _ ?side1 ?side2 ?side3 ?side4 A87.out).mono ?_); (case side1 => exact ca_ (Kd.R_reads' HO464.out).2.2); (case side2 => exact (Kd.R_reads' HO464.out).2.1); (case side3 => exact ca_ (Kd.R_reads' HO467.out).2.2); (case side4 => exact (Kd.R_reads' HO467.out).2.1); rintro e w97 ⟨v469, rfl, ho0, hb⟩; refine ⟨_, rfl, ?_⟩; have n0_ := Aside0.mk (Kd.R_elder' (ra_ HO_8.out) (Kd.R_base ho0) hb); have n1_ := Aside0.mk (Kd.R_elder' (ra_ HO_12.out) (Kd.R_base ho0) hb); have n2_ := Aside0.mk (Kd.R_below (ra_ HO_436001.out) hb); have n3_ := Aside0.mk (Kd.R_below (ra_ HO464.out) hb); have n4_ := Aside0.mk (Kd.R_below (ra_ HO467.out) hb); have n5_ := Aside0.mk (Kd.R_lower (Kd.R_new' (Kd.R_new' ho0 (Kd.R_lt (ra_ HO_8.out))) (Kd.R_lt (ra_ HO_12.out))) (below_size (bl2_ HB.out GE417.out GE435.out))); have n6_ := Aside0.mk (blk_below (g := gb417) (o := .cells #[.int .i64 a0_0, .slice A0_1 l0_1.length c0_1] 24 (0, 0)) (bk_ BK417.out) hb); have n7_ := Aside0.mk (blk_below (g := gb435) (o := .cells #[.int .i64 t431, .slice Ao35 t454.length co35] 29 (0, 0)) (bk_ BK435.out) hb); have n8_ := Aside0.mk (below_step (bl2_ HB.out GE417.out GE435.out) hb); clear HO_8; clear HO_12; clear HO_436001; clear HO464; clear HO467; clear BK417; clear BK435; clear HB; have HO_8 := n0_; have HO_12 := n1_; have HO_436001 := n2_; have HO464 := n3_; have HO467 := n4_; have HO470 := n5_; have BK417 := n6_; have BK435 := n7_; have HB := n8_; clear n0_ n1_ n2_ n3_ n4_ n5_ n6_ n7_ n8_; (try clear hb); (try clear hb2); (try clear hk); (try clear hi); (try clear ho0)))
             (try simp only [Act.put, List.setIfInBounds_toArray, List.set_cons_zero, List.set_cons_succ])
             go_cut [115] (fun v115 wc => ∃ (kq : Nat) (x115_87 : Bool), v115 = .bool x115_87 ∧ Aside0 (laws_FnExactActivePairs.j2 kq t459 t458 x115_87 = some r) ∧ Aside0 (kq ≤ kj56) ∧ Aside0 (Kd.R k97 97 wc w.heap.size (fun _ => True) (.slice Ao89 t439.length co89) t459) ∧ Aside0 (Kd.R k71 71 wc w.heap.size (fun _ => True) (.slice Ao35 t454.length co35) t454) ∧ Aside0 (wc.heap[gb417]? = some (.cells #[.int .i64 a0_0, (.slice A0_1 l0_1.length c0_1)] 24 (0, 0))) ∧ Aside0 (wc.heap[gb435]? = some (.cells #[.int .i64 t431, (.slice Ao35 t454.length co35)] 29 (0, 0))) ∧ Aside0 (Below w.heap.size w wc))
             case first =>
              have H := HC88.out
              clear HC88
              replace H := Option.bind_eq_some_iff.mp H
              obtain ⟨t472, A980, H⟩ := H
              replace H : (if t472 = true then (laws_FnExactActivePairs.j2 kj56 t459 t458 (t471 != t430)) else (laws_FnExactActivePairs.j2 kj56 t459 t458 true)) = some r := H
              have A98 := Aside0.mk A980
              clear A980
              by_cases c99 : t472 = true
              ·subst c99
               have H1 : (laws_FnExactActivePairs.j2 kj56 t459 t458 (t471 != t430)) = some r := by rw [if_pos rfl] at H; exact H
               clear H
               have H := H1
               clear H1
               have H' := Aside0.mk H
               clear H
               obtain ⟨Ao100, co100, eo100⟩ := Kd.R_slice HO470.out
               subst eo100
               obtain ⟨Ao101, co101, eo101⟩ := Kd.R_slice HO_8.out
               subst eo101
               go_wp2_with (first | ((with_reducible refine gate_callee (f := 49) rfl ?_); refine goesL_ (some 109) rfl rfl Try.func49 (by kernel_rfl) rfl #[.slice Ao100 t468.length co100, .slice Ao101 t427.length co101] rfl mp_ ?_; (with_reducible refine (laws_eqPairS.calls kj56 _ _ t468 _ _ t427 true _ ?side1 ?side2 ?side3 ?side4 A98.out).mono ?_); (case side1 => exact ca_ (Kd.R_reads' HO470.out).2.2); (case side2 => exact (Kd.R_reads' HO470.out).2.1); (case side3 => exact ca_ (Kd.R_reads' HO_8.out).2.2); (case side4 => exact (Kd.R_reads' HO_8.out).2.1); rintro e w102 ⟨rfl, hb⟩; refine ⟨_, rfl, ?_⟩; have n0_ := Aside0.mk (Kd.R_below (ra_ HO_8.out) hb); have n1_ := Aside0.mk (Kd.R_below (ra_ HO_12.out) hb); have n2_ := Aside0.mk (Kd.R_below (ra_ HO_436001.out) hb); have n3_ := Aside0.mk (Kd.R_below (ra_ HO464.out) hb); have n4_ := Aside0.mk (Kd.R_below (ra_ HO467.out) hb); have n5_ := Aside0.mk (Kd.R_below (ra_ HO470.out) hb); have n6_ := Aside0.mk (blk_below (g := gb417) (o := .cells #[.int .i64 a0_0, .slice A0_1 l0_1.length c0_1] 24 (0, 0)) (bk_ BK417.out) hb); have n7_ := Aside0.mk (blk_below (g := gb435) (o := .cells #[.int .i64 t431, .slice Ao35 t454.length co35] 29 (0, 0)) (bk_ BK435.out) hb); have n8_ := Aside0.mk (below_step (bl2_ HB.out GE417.out GE435.out) hb); clear HO_8; clear HO_12; clear HO_436001; clear HO464; clear HO467; clear HO470; clear BK417; clear BK435; clear HB; have HO_8 := n0_; have HO_12 := n1_; have HO_436001 := n2_; have HO464 := n3_; have HO467 := n4_; have HO470 := n5_; have BK417 := n6_; have BK435 := n7_; have HB := n8_; clear n0_ n1_ n2_ n3_ n4_ n5_ n6_ n7_ n8_; (try clear hb); (try clear hb2); (try clear hk); (try clear hi)))
               go_meet
               case rel => exact ⟨_, ((t471 != t430)), rs_, H', ⟨by have := HJ19.out; have := HJ56.out; first | omega | exact Nat.le_refl _⟩, ⟨by (try simp only [hl436001_56]); (with_reducible repeat (first | apply Kd.R_alloc | apply Kd.R_drewN | apply Kd.R_drew)); exact Kd.R_mono HO_12.out (fun _ hk => trivial)⟩, ⟨by (try simp only [hl436001_56]); (with_reducible repeat (first | apply Kd.R_alloc | apply Kd.R_drewN | apply Kd.R_drew)); exact Kd.R_mono HO_436001.out (fun _ hk => trivial)⟩, ⟨by (try simp only [hl436001_56]); (with_reducible repeat (first | refine blk_drewN ?_ _ | refine blk_drew ?_ | refine blk_alloc ?_ _)); exact BK417.out⟩, ⟨by (try simp only [hl436001_56]); (with_reducible repeat (first | refine blk_drewN ?_ _ | refine blk_drew ?_ | refine blk_alloc ?_ _)); exact BK435.out⟩, ⟨bl2_ HB.out GE417.out GE435.out⟩⟩
              ·replace c99 := Bool.eq_false_iff.mpr c99
               subst c99
               have H1 : (laws_FnExactActivePairs.j2 kj56 t459 t458 true) = some r := by rw [if_neg (show ¬ (false = true) by decide)] at H; exact H
               clear H
               have H := H1
               clear H1
               have H' := Aside0.mk H
               clear H
               obtain ⟨Ao103, co103, eo103⟩ := Kd.R_slice HO470.out
               subst eo103
               obtain ⟨Ao104, co104, eo104⟩ := Kd.R_slice HO_8.out
               subst eo104
               go_wp2_with (first | ((with_reducible refine gate_callee (f := 49) rfl ?_); refine goesL_ (some 109) rfl rfl Try.func49 (by kernel_rfl) rfl #[.slice Ao103 t468.length co103, .slice Ao104 t427.length co104] rfl mp_ ?_; (with_reducible refine (laws_eqPairS.calls kj56 _ _ t468 _ _ t427 false _ ?side1 ?side2 ?side3 ?side4 A98.out).mono ?_); (case side1 => exact ca_ (Kd.R_reads' HO470.out).2.2); (case side2 => exact (Kd.R_reads' HO470.out).2.1); (case side3 => exact ca_ (Kd.R_reads' HO_8.out).2.2); (case side4 => exact (Kd.R_reads' HO_8.out).2.1); rintro e w105 ⟨rfl, hb⟩; refine ⟨_, rfl, ?_⟩; have n0_ := Aside0.mk (Kd.R_below (ra_ HO_8.out) hb); have n1_ := Aside0.mk (Kd.R_below (ra_ HO_12.out) hb); have n2_ := Aside0.mk (Kd.R_below (ra_ HO_436001.out) hb); have n3_ := Aside0.mk (Kd.R_below (ra_ HO464.out) hb); have n4_ := Aside0.mk (Kd.R_below (ra_ HO467.out) hb); have n5_ := Aside0.mk (Kd.R_below (ra_ HO470.out) hb); have n6_ := Aside0.mk (blk_below (g := gb417) (o := .cells #[.int .i64 a0_0, .slice A0_1 l0_1.length c0_1] 24 (0, 0)) (bk_ BK417.out) hb); have n7_ := Aside0.mk (blk_below (g := gb435) (o := .cells #[.int .i64 t431, .slice Ao35 t454.length co35] 29 (0, 0)) (bk_ BK435.out) hb); have n8_ := Aside0.mk (below_step (bl2_ HB.out GE417.out GE435.out) hb); clear HO_8; clear HO_12; clear HO_436001; clear HO464; clear HO467; clear HO470; clear BK417; clear BK435; clear HB; have HO_8 := n0_; have HO_12 := n1_; have HO_436001 := n2_; have HO464 := n3_; have HO467 := n4_; have HO470 := n5_; have BK417 := n6_; have BK435 := n7_; have HB := n8_; clear n0_ n1_ n2_ n3_ n4_ n5_ n6_ n7_ n8_; (try clear hb); (try clear hb2); (try clear hk); (try clear hi)))
               go_meet
               case rel => exact ⟨_, (true), rs_, H', ⟨by have := HJ19.out; have := HJ56.out; first | omega | exact Nat.le_refl _⟩, ⟨by (try simp only [hl436001_56]); (with_reducible repeat (first | apply Kd.R_alloc | apply Kd.R_drewN | apply Kd.R_drew)); exact Kd.R_mono HO_12.out (fun _ hk => trivial)⟩, ⟨by (try simp only [hl436001_56]); (with_reducible repeat (first | apply Kd.R_alloc | apply Kd.R_drewN | apply Kd.R_drew)); exact Kd.R_mono HO_436001.out (fun _ hk => trivial)⟩, ⟨by (try simp only [hl436001_56]); (with_reducible repeat (first | refine blk_drewN ?_ _ | refine blk_drew ?_ | refine blk_alloc ?_ _)); exact BK417.out⟩, ⟨by (try simp only [hl436001_56]); (with_reducible repeat (first | refine blk_drewN ?_ _ | refine blk_drew ?_ | refine blk_alloc ?_ _)); exact BK435.out⟩, ⟨bl2_ HB.out GE417.out GE435.out⟩⟩
             case rest =>
              clear HC88
              try clear c1
              try clear c2
              try clear p2
              try clear c3
              try clear c4
              try clear c5
              try clear c5b0
              try clear c6
              try clear c7
              try clear c8
              try clear c9
              try clear c10
              try clear c10b0
              try clear c12
              try clear c14
              try clear c16
              try clear c18
              try clear c26
              try clear c33
              try clear c36
              try clear c38
              try clear c40
              try clear c41
              try clear c45
              try clear c47
              try clear c48
              try clear c49
              try clear c50
              try clear c51
              try clear c54
              try clear c65
              try clear c69
              try clear c69b0
              try clear c71
              try clear c78
              try clear c81
              try clear c81b0
              try clear c84
              try clear c84b0
              try clear c84b1
              try clear c91
              try clear c99
              try clear hcz12_0
              try clear hcz12_1
              try clear hcz22_0
              try clear hcz22_1
              try clear hcz24_0
              try clear hcz24_1
              try clear hcz30_0
              try clear hcz30_1
              try clear hcz34_0
              try clear hcz34_1
              try clear hcz37_0
              try clear hcz37_1
              try clear hcz66_0
              try clear hcz66_1
              try clear hcz7_0
              try clear hcz7_1
              try clear hcz92_0
              try clear hcz92_1
              try clear hfz12_0
              try clear hfz12_1
              try clear hfz22_0
              try clear hfz22_1
              try clear hfz24_0
              try clear hfz24_1
              try clear hfz30_0
              try clear hfz30_1
              try clear hfz34_0
              try clear hfz34_1
              try clear hfz37_0
              try clear hfz37_1
              try clear hfz66_0
              try clear hfz66_1
              try clear hfz7_0
              try clear hfz7_1
              try clear hfz92_0
              try clear hfz92_1
              try clear p2
              obtain ⟨kq, x115_87, rfl, HA, HJ87, HO_12, HO_436001, BK417, BK435, HB⟩ := hcut
              have hl12_87 := (Kd.R_reads' HO_12.out).1
              rw [hl12_87] at HO_12
              (try simp only [hl12_87])
              (try simp only [hl12_87] at BK417)
              (try simp only [hl12_87] at BK435)
              (try simp only [hl12_87] at HO_436001)
              cases kq with
              | zero => exact absurd HA.out (by simp [laws_FnExactActivePairs.j2])
              | succ kj87 =>
               have H := HA.out
               clear HA
               simp only [laws_FnExactActivePairs.j2] at H
               by_cases c106 : x115_87 = true
               ·subst c106
                have H1 : (some false) = some r := by rw [if_pos rfl] at H; exact H
                clear H
                have H := H1
                clear H1
                obtain rfl := Option.some.inj H
                go_wp2
                go_ret
                exact ⟨re_, bl2_ HB.out GE417.out GE435.out⟩
               ·replace c106 := Bool.eq_false_iff.mpr c106
                subst c106
                have H1 : ((laws_heldPairS.f kj87 t459 1).bind fun t473 => (if t473 < 0 then (some false) else (if t473 = t458 then (some true) else (some false)))) = some r := by rw [if_neg (show ¬ (false = true) by decide)] at H; exact H
                clear H
                have H := H1
                clear H1
                replace H := Option.bind_eq_some_iff.mp H
                obtain ⟨t473, A1070, H⟩ := H
                replace H : (if t473 < 0 then (some false) else (if t473 = t458 then (some true) else (some false))) = some r := H
                have A107 := Aside0.mk A1070
                clear A1070
                by_cases c108 : t473 < 0
                ·rw [if_pos c108] at H
                 have c108b0 := decide_eq_true c108
                 clear c108
                 obtain rfl := Option.some.inj H
                 go_wp2_with (first | ((with_reducible refine gate_callee (f := 51) rfl ?_); refine goesL_ (some 118) rfl rfl Try.func51 (by kernel_rfl) rfl #[.slice Ao89 t459.length co89, .int .i64 1] rfl mp_ ?_; (with_reducible refine (laws_heldPairS.calls kj87 _ _ t459 1 t473 _ ?side1 ?side2 A107.out).mono ?_); (case side1 => exact ca_ (Kd.R_reads' HO_12.out).2.2); (case side2 => exact (Kd.R_reads' HO_12.out).2.1); rintro e w' ⟨rfl, ⟨nd, rfl⟩⟩; refine ⟨_, rfl, ?_⟩))
                 go_ret
                 exact ⟨re_, bl2_ HB.out GE417.out GE435.out⟩
                ·rw [if_neg c108] at H
                 have c108b0 := decide_eq_false c108
                 clear c108
                 by_cases c109 : t473 = t458
                 ·rw [if_pos c109] at H
                  have c109b0 : (t473 == t458) = true := beq_iff_eq.mpr c109
                  have c109b1 : (t473 != t458) = false := bne_eq_false_iff_eq.mpr c109
                  clear c109
                  obtain rfl := Option.some.inj H
                  go_wp2_with (first | ((with_reducible refine gate_callee (f := 51) rfl ?_); refine goesL_ (some 118) rfl rfl Try.func51 (by kernel_rfl) rfl #[.slice Ao89 t459.length co89, .int .i64 1] rfl mp_ ?_; (with_reducible refine (laws_heldPairS.calls kj87 _ _ t459 1 t473 _ ?side1 ?side2 A107.out).mono ?_); (case side1 => exact ca_ (Kd.R_reads' HO_12.out).2.2); (case side2 => exact (Kd.R_reads' HO_12.out).2.1); rintro e w' ⟨rfl, ⟨nd, rfl⟩⟩; refine ⟨_, rfl, ?_⟩))
                  go_ret
                  exact ⟨re_, bl2_ HB.out GE417.out GE435.out⟩
                 ·rw [if_neg c109] at H
                  have c109b0 : (t473 == t458) = false := beq_eq_false_iff_ne.mpr c109
                  have c109b1 : (t473 != t458) = true := bne_iff_ne.mpr c109
                  obtain rfl := Option.some.inj H
                  go_wp2_with (first | ((with_reducible refine gate_callee (f := 51) rfl ?_); refine goesL_ (some 118) rfl rfl Try.func51 (by kernel_rfl) rfl #[.slice Ao89 t459.length co89, .int .i64 1] rfl mp_ ?_; (with_reducible refine (laws_heldPairS.calls kj87 _ _ t459 1 t473 _ ?side1 ?side2 A107.out).mono ?_); (case side1 => exact ca_ (Kd.R_reads' HO_12.out).2.2); (case side2 => exact (Kd.R_reads' HO_12.out).2.1); rintro e w' ⟨rfl, ⟨nd, rfl⟩⟩; refine ⟨_, rfl, ?_⟩))
                  go_ret
                  exact ⟨re_, bl2_ HB.out GE417.out GE435.out⟩
            ·rw [if_neg c84] at H
             have c84b0 : (t460 == t458) = false := beq_eq_false_iff_ne.mpr c84
             have c84b1 : (t460 != t458) = true := bne_iff_ne.mpr c84
             obtain rfl := Option.some.inj H
             obtain ⟨Ao110, co110, eo110⟩ := Kd.R_slice HO_12.out
             subst eo110
             go_wp2_with (first | ((with_reducible refine gate_callee (f := 50) rfl ?_); refine goesL_ (some 89) rfl rfl Try.func50 (by kernel_rfl) rfl #[.slice Ao110 t439.length co110, .int .i64 1] rfl mp_ ?_; (with_reducible refine (laws_markPairS.calls kj56 (fun k_ => some k_ = (.slice Ao110 t439.length co110 : Value).ownBlock) (.slice Ao110 t439.length co110) t439 1 t458 t459 w _ ?side1 ?side2 A79.out).mono ?_); (case side1 => repeat (first | (with_reducible first | exact HB.out | apply below_alloc | apply pw_below_drewN | apply below_drew1 | refine below_set ?_ GE417.out | refine below_set ?_ GE435.out) | exact HB.out)); (case side2 => exact Kd.R_tight rfl HO_12.out); rintro e w111 ⟨rfl, hy0, hb, hkp⟩; refine ⟨_, rfl, ?_⟩; have n0_ := Aside0.mk (Kd.R_mono (ok' := fun k_ => some k_ ≠ (.slice Ao110 t439.length co110 : Value).ownBlock) (Kd.R_keptB (HO_8.out) hkp (fun k_ hk_ hs_ => (hk_) hs_)) (fun k_ hk_ => hk_.1)); have n1_ := Aside0.mk (Kd.R_reok rfl hy0 (fun k_ e_ => HO_12.out.1 k_ e_)); have n2_ := Aside0.mk (Kd.R_mono (ok' := fun k_ => True) (Kd.R_keptB ((Kd.R_apart' HO_436001.out (Kd.R_typed HO_12.out) (by decide))) hkp (fun k_ hk_ hs_ => (hk_.2) hs_)) (fun k_ hk_ => trivial)); have n3_ := Aside0.mk (blk_kept (bk_ BK417.out) hkp (fun hs_ => (fun e_ => (Kd.R_ne HO_12.out BK417.out (by decide)) e_) hs_)); have n4_ := Aside0.mk (blk_kept (bk_ BK435.out) hkp (fun hs_ => (fun e_ => (Kd.R_ne HO_12.out BK435.out (by decide)) e_) hs_)); have n5_ := Aside0.mk (hb); clear HO_8; clear HO_12; clear HO_436001; clear BK417; clear BK435; clear HB; have HO_8 := n0_; have HO_12 := n1_; have HO_436001 := n2_; have BK417 := n3_; have BK435 := n4_; have HB := n5_; clear n0_ n1_ n2_ n3_ n4_ n5_; (try clear hb); (try clear hkp); (try clear hy0)) | ((with_reducible refine gate_callee (f := 51) rfl ?_); refine goesL_ (some 92) rfl rfl Try.func51 (by kernel_rfl) rfl #[.slice Ao110 t459.length co110, .int .i64 1] rfl (by (try simp only [List.map_toArray, List.map_cons, List.map_nil]); first | done | (rw [show t459.length = t439.length from (Kd.R_reads' HO_12.out).1.symm] <;> rfl) | rfl | (simp only [List.length_drop, List.length_take]; rfl)) ?_; (with_reducible refine (laws_heldPairS.calls kj56 _ _ t459 1 t460 _ ?side1 ?side2 A80.out).mono ?_); (case side1 => exact ca_ (Kd.R_reads' HO_12.out).2.2); (case side2 => rw [show t459.length = t439.length from (Kd.R_reads' HO_12.out).1.symm]; exact (Kd.R_reads' HO_12.out).2.1); rintro e w' ⟨rfl, ⟨nd, rfl⟩⟩; refine ⟨_, rfl, ?_⟩))
             go_ret
             exact ⟨re_, bl2_ HB.out GE417.out GE435.out⟩
       ·replace c54 := Bool.eq_false_iff.mpr c54
        subst c54
        have H1 : (some false) = some r := by rw [if_neg (show ¬ (false = true) by decide)] at H; exact H
        clear H
        have H := H1
        clear H1
        obtain rfl := Option.some.inj H
        try go_wp2
        have n0_ := Aside0.mk (Kd.R_drew HO_8.out)
        have n1_ := Aside0.mk (Kd.R_drew HO_11.out)
        have n2_ := Aside0.mk (Kd.R_drew HO_12.out)
        have n3_ := Aside0.mk (Kd.R_drew HO_436001.out)
        have n4_ := Aside0.mk (blk_drew BK417.out)
        have n5_ := Aside0.mk (blk_drew BK435.out)
        have n6_ := Aside0.mk (below_drew1 HB.out)
        clear HO_8
        clear HO_11
        clear HO_12
        clear HO_436001
        clear BK417
        clear BK435
        clear HB
        have HO_8 := n0_
        have HO_11 := n1_
        have HO_12 := n2_
        have HO_436001 := n3_
        have BK417 := n4_
        have BK435 := n5_
        have HB := n6_
        clear n0_ n1_ n2_ n3_ n4_ n5_ n6_
        refine start_ (n := 5) (S := fun w' => w'.cell? ⟨gb435, 0, none⟩ = some (.int .i64 t431) ∧ w'.cell? ⟨gb435, 1, none⟩ = some (.slice Ao35 t432.length co35) ∧ w'.cell? ⟨gb417, 0, none⟩ = some (.int .i64 a0_0) ∧ w'.cell? ⟨gb417, 1, none⟩ = some (.slice A0_1 l0_1.length c0_1)) (ds := []) #[false,false,false,false,false] (by kernel_rfl) rfl rfl ⟨(blk_cell BK435.out 0).trans rfl, (blk_cell BK435.out 1).trans rfl, (blk_cell BK417.out 0).trans rfl, (blk_cell BK417.out 1).trans rfl⟩ (fun hHeld => ?_)
        generalize wc.drew = w112 at HO_8 HO_11 HO_12 HO_436001 BK417 BK435 HB hHeld ⊢
        refine tkz_ 0 (some 58) #[true,false,false,false,false] rfl rfl (by kernel_rfl) hHeld ?_
        refine tkz_ 1 (some 59) #[true,true,false,false,false] rfl rfl (by kernel_rfl) hHeld ?_
        refine one_ (i := 2) (N := some 60) #[true,true,true,false,false] rfl rfl (by kernel_rfl) (by decide) (fun K hK => ?_)
        refine goes_ Try.func16 (by kernel_rfl) rfl #[.agg #[.int .i64 a0_0, .slice A0_1 l0_1.length c0_1]] (by rfl) rfl rfl mp_ ?_
        with_reducible refine (laws_toTree.calls kj19 a0_0 _ _ l0_1 t444 t445 _ ?side1 ?side2 A49.out).mono ?_
        (case side1 => exact ca_ (Kd.C_below HR0_1.out HB.out))
        (case side2 => exact HC0_1.out)
        rintro e w113 ⟨v446, rfl, ho0, hb⟩
        refine ⟨_, rfl, ?_⟩
        have n0_ := Aside0.mk (Kd.R_below (ra_ HO_8.out) hb)
        have n1_ := Aside0.mk (Kd.R_below (ra_ HO_11.out) hb)
        have n2_ := Aside0.mk (Kd.R_below (ra_ HO_12.out) hb)
        have n3_ := Aside0.mk (Kd.R_elder' (ra_ HO_436001.out) (Kd.R_base ho0) hb)
        have n4_ := Aside0.mk (Kd.R_lower (Kd.R_new' ho0 (Kd.R_lt (ra_ HO_436001.out))) (below_size (bl2_ HB.out GE417.out GE435.out)))
        have n5_ := Aside0.mk (blk_below (g := gb417) (o := .cells #[.int .i64 a0_0, .slice A0_1 l0_1.length c0_1] 24 (0, 0)) (bk_ BK417.out) hb)
        have n6_ := Aside0.mk (blk_below (g := gb435) (o := .cells #[.int .i64 t431, .slice Ao35 t432.length co35] 29 (0, 0)) (bk_ BK435.out) hb)
        have n7_ := Aside0.mk (below_step (bl2_ HB.out GE417.out GE435.out) hb)
        clear HO_8
        clear HO_11
        clear HO_12
        clear HO_436001
        clear BK417
        clear BK435
        clear HB
        have HO_8 := n0_
        have HO_11 := n1_
        have HO_12 := n2_
        have HO_436001 := n3_
        have HO447 := n4_
        have BK417 := n5_
        have BK435 := n6_
        have HB := n7_
        clear n0_ n1_ n2_ n3_ n4_ n5_ n6_ n7_
        (try clear hb)
        (try clear hb2)
        (try clear hk)
        (try clear hi)
        (try clear ho0)
        obtain ⟨Ao114, co114, eo114⟩ := Kd.R_slice HO447.out
        (first | subst eo114 | (injection eo114 with f1_ f2_ f3_; have f4_ := f1_.symm; have f5_ := f3_.symm; clear f1_ f2_ f3_; subst f4_; subst f5_))
        refine hK.out _ _ ⟨(blk_cell BK435.out 0).trans rfl, (blk_cell BK435.out 1).trans rfl, (blk_cell BK417.out 0).trans rfl, (blk_cell BK417.out 1).trans rfl⟩ (fun hHeld => ?_)
        clear hK K
        refine norm_ (a' := ?_) ?_ ?_
        rotate_left
        ·show Act.put _ (some 60) _ = _
         simp only [Act.put, List.setIfInBounds_toArray, List.set_cons_zero, List.set_cons_succ, i64_w, i32_w]
         rfl
        refine one_ (i := 3) (N := some 61) #[true,true,true,true,false] rfl rfl (by kernel_rfl) (by decide) (fun K hK => ?_)
        refine goes_ Try.func18 (by kernel_rfl) rfl #[.agg #[.int .i64 t431, .slice Ao35 t432.length co35], .agg #[.int .i64 t444, .slice Ao114 t445.length co114]] (by rfl) rfl rfl mp_ ?_
        with_reducible refine (laws_eqTree.calls kj19 t431 _ _ t432 t444 _ _ t445 true _ ?side1 ?side2 ?side3 ?side4 A50.out).mono ?_
        (case side1 => exact ca_ (Kd.R_reads' HO_436001.out).2.2)
        (case side2 => exact (Kd.R_reads' HO_436001.out).2.1)
        (case side3 => exact ca_ (Kd.R_reads' HO447.out).2.2)
        (case side4 => exact (Kd.R_reads' HO447.out).2.1)
        rintro e w115 ⟨rfl, hb⟩
        refine ⟨_, rfl, ?_⟩
        have n0_ := Aside0.mk (Kd.R_below (ra_ HO_8.out) hb)
        have n1_ := Aside0.mk (Kd.R_below (ra_ HO_11.out) hb)
        have n2_ := Aside0.mk (Kd.R_below (ra_ HO_12.out) hb)
        have n3_ := Aside0.mk (Kd.R_below (ra_ HO_436001.out) hb)
        have n4_ := Aside0.mk (Kd.R_below (ra_ HO447.out) hb)
        have n5_ := Aside0.mk (blk_below (g := gb417) (o := .cells #[.int .i64 a0_0, .slice A0_1 l0_1.length c0_1] 24 (0, 0)) (bk_ BK417.out) hb)
        have n6_ := Aside0.mk (blk_below (g := gb435) (o := .cells #[.int .i64 t431, .slice Ao35 t432.length co35] 29 (0, 0)) (bk_ BK435.out) hb)
        have n7_ := Aside0.mk (below_step (bl2_ HB.out GE417.out GE435.out) hb)
        clear HO_8
        clear HO_11
        clear HO_12
        clear HO_436001
        clear HO447
        clear BK417
        clear BK435
        clear HB
        have HO_8 := n0_
        have HO_11 := n1_
        have HO_12 := n2_
        have HO_436001 := n3_
        have HO447 := n4_
        have BK417 := n5_
        have BK435 := n6_
        have HB := n7_
        clear n0_ n1_ n2_ n3_ n4_ n5_ n6_ n7_
        (try clear hb)
        (try clear hb2)
        (try clear hk)
        (try clear hi)
        refine hK.out _ _ ⟨(blk_cell BK435.out 0).trans rfl, (blk_cell BK435.out 1).trans rfl, (blk_cell BK417.out 0).trans rfl, (blk_cell BK417.out 1).trans rfl⟩ (fun hHeld => ?_)
        clear hK K
        refine norm_ (a' := ?_) ?_ ?_
        rotate_left
        ·show Act.put _ (some 61) _ = _
         simp only [Act.put, List.setIfInBounds_toArray, List.set_cons_zero, List.set_cons_succ, i64_w, i32_w]
         rfl
        refine puz_ 4 (some 62) #[true,true,true,true,true] rfl rfl (by kernel_rfl) ?_
        refine done_ (by kernel_rfl) ?_
        try go_wp2_with (first | ((with_reducible refine gate_callee (f := 38) rfl ?_); refine goesL_ (some 65) rfl rfl Try.func38 (by kernel_rfl) rfl #[.slice A2 l2.length c2] rfl mp_ ?_; (with_reducible refine (laws_toSpotS.calls kj19 _ _ l2 t449 _ ?side1 ?side2 A52.out).mono ?_); (case side1 => exact ca_ (Kd.C_below HR2.out HB.out)); (case side2 => exact HC2.out); rintro e w116 ⟨v450, rfl, ho0, hb⟩; refine ⟨_, rfl, ?_⟩; have n0_ := Aside0.mk (Kd.R_below (ra_ HO_8.out) hb); have n1_ := Aside0.mk (Kd.R_elder' (ra_ HO_11.out) (Kd.R_base ho0) hb); have n2_ := Aside0.mk (Kd.R_below (ra_ HO_12.out) hb); have n3_ := Aside0.mk (Kd.R_below (ra_ HO_436001.out) hb); have n4_ := Aside0.mk (Kd.R_below (ra_ HO447.out) hb); have n5_ := Aside0.mk (Kd.R_lower (Kd.R_new' ho0 (Kd.R_lt (ra_ HO_11.out))) (below_size (bl2_ HB.out GE417.out GE435.out))); have n6_ := Aside0.mk (blk_below (g := gb417) (o := .cells #[.int .i64 a0_0, .slice A0_1 l0_1.length c0_1] 24 (0, 0)) (bk_ BK417.out) hb); have n7_ := Aside0.mk (blk_below (g := gb435) (o := .cells #[.int .i64 t431, .slice Ao35 t432.length co35] 29 (0, 0)) (bk_ BK435.out) hb); have n8_ := Aside0.mk (below_step (bl2_ HB.out GE417.out GE435.out) hb); clear HO_8; clear HO_11; clear HO_12; clear HO_436001; clear HO447; clear BK417; clear BK435; clear HB; have HO_8 := n0_; have HO_11 := n1_; have HO_12 := n2_; have HO_436001 := n3_; have HO447 := n4_; have HO451 := n5_; have BK417 := n6_; have BK435 := n7_; have HB := n8_; clear n0_ n1_ n2_ n3_ n4_ n5_ n6_ n7_ n8_; (try clear hb); (try clear hb2); (try clear hk); (try clear hi); (try clear ho0); obtain ⟨Ao117, co117, eo117⟩ := Kd.R_slice HO451.out; subst eo117) | ((with_reducible refine gate_callee (f := 40) rfl ?_); refine goesL_ (some 66) rfl rfl Try.func40 (by kernel_rfl) rfl #[.slice Ao38 t436.length co38, .slice Ao117 t449.length co117] rfl mp_ ?_; (with_reducible refine (laws_eqSpotS.calls kj19 _ _ t436 _ _ t449 false _ ?side1 ?side2 ?side3 ?side4 A53.out).mono ?_); (case side1 => exact ca_ (Kd.R_reads' HO_11.out).2.2); (case side2 => exact (Kd.R_reads' HO_11.out).2.1); (case side3 => exact ca_ (Kd.R_reads' HO451.out).2.2); (case side4 => exact (Kd.R_reads' HO451.out).2.1); rintro e w118 ⟨rfl, hb⟩; refine ⟨_, rfl, ?_⟩; have n0_ := Aside0.mk (Kd.R_below (ra_ HO_8.out) hb); have n1_ := Aside0.mk (Kd.R_below (ra_ HO_11.out) hb); have n2_ := Aside0.mk (Kd.R_below (ra_ HO_12.out) hb); have n3_ := Aside0.mk (Kd.R_below (ra_ HO_436001.out) hb); have n4_ := Aside0.mk (Kd.R_below (ra_ HO447.out) hb); have n5_ := Aside0.mk (Kd.R_below (ra_ HO451.out) hb); have n6_ := Aside0.mk (blk_below (g := gb417) (o := .cells #[.int .i64 a0_0, .slice A0_1 l0_1.length c0_1] 24 (0, 0)) (bk_ BK417.out) hb); have n7_ := Aside0.mk (blk_below (g := gb435) (o := .cells #[.int .i64 t431, .slice Ao35 t432.length co35] 29 (0, 0)) (bk_ BK435.out) hb); have n8_ := Aside0.mk (below_step (bl2_ HB.out GE417.out GE435.out) hb); clear HO_8; clear HO_11; clear HO_12; clear HO_436001; clear HO447; clear HO451; clear BK417; clear BK435; clear HB; have HO_8 := n0_; have HO_11 := n1_; have HO_12 := n2_; have HO_436001 := n3_; have HO447 := n4_; have HO451 := n5_; have BK417 := n6_; have BK435 := n7_; have HB := n8_; clear n0_ n1_ n2_ n3_ n4_ n5_ n6_ n7_ n8_; (try clear hb); (try clear hb2); (try clear hk); (try clear hi)))
        go_ret
        exact ⟨re_, bl2_ HB.out GE417.out GE435.out⟩
      ·replace c51 := Bool.eq_false_iff.mpr c51
       subst c51
       have H1 : (some false) = some r := by rw [if_neg (show ¬ (false = true) by decide)] at H; exact H
       clear H
       have H := H1
       clear H1
       obtain rfl := Option.some.inj H
       try go_wp2
       have n0_ := Aside0.mk (Kd.R_drew HO_8.out)
       have n1_ := Aside0.mk (Kd.R_drew HO_11.out)
       have n2_ := Aside0.mk (Kd.R_drew HO_12.out)
       have n3_ := Aside0.mk (Kd.R_drew HO_436001.out)
       have n4_ := Aside0.mk (blk_drew BK417.out)
       have n5_ := Aside0.mk (blk_drew BK435.out)
       have n6_ := Aside0.mk (below_drew1 HB.out)
       clear HO_8
       clear HO_11
       clear HO_12
       clear HO_436001
       clear BK417
       clear BK435
       clear HB
       have HO_8 := n0_
       have HO_11 := n1_
       have HO_12 := n2_
       have HO_436001 := n3_
       have BK417 := n4_
       have BK435 := n5_
       have HB := n6_
       clear n0_ n1_ n2_ n3_ n4_ n5_ n6_
       refine start_ (n := 5) (S := fun w' => w'.cell? ⟨gb435, 0, none⟩ = some (.int .i64 t431) ∧ w'.cell? ⟨gb435, 1, none⟩ = some (.slice Ao35 t432.length co35) ∧ w'.cell? ⟨gb417, 0, none⟩ = some (.int .i64 a0_0) ∧ w'.cell? ⟨gb417, 1, none⟩ = some (.slice A0_1 l0_1.length c0_1)) (ds := []) #[false,false,false,false,false] (by kernel_rfl) rfl rfl ⟨(blk_cell BK435.out 0).trans rfl, (blk_cell BK435.out 1).trans rfl, (blk_cell BK417.out 0).trans rfl, (blk_cell BK417.out 1).trans rfl⟩ (fun hHeld => ?_)
       generalize wc.drew = w119 at HO_8 HO_11 HO_12 HO_436001 BK417 BK435 HB hHeld ⊢
       refine tkz_ 0 (some 58) #[true,false,false,false,false] rfl rfl (by kernel_rfl) hHeld ?_
       refine tkz_ 1 (some 59) #[true,true,false,false,false] rfl rfl (by kernel_rfl) hHeld ?_
       refine one_ (i := 2) (N := some 60) #[true,true,true,false,false] rfl rfl (by kernel_rfl) (by decide) (fun K hK => ?_)
       refine goes_ Try.func16 (by kernel_rfl) rfl #[.agg #[.int .i64 a0_0, .slice A0_1 l0_1.length c0_1]] (by rfl) rfl rfl mp_ ?_
       with_reducible refine (laws_toTree.calls kj19 a0_0 _ _ l0_1 t444 t445 _ ?side1 ?side2 A49.out).mono ?_
       (case side1 => exact ca_ (Kd.C_below HR0_1.out HB.out))
       (case side2 => exact HC0_1.out)
       rintro e w120 ⟨v446, rfl, ho0, hb⟩
       refine ⟨_, rfl, ?_⟩
       have n0_ := Aside0.mk (Kd.R_below (ra_ HO_8.out) hb)
       have n1_ := Aside0.mk (Kd.R_below (ra_ HO_11.out) hb)
       have n2_ := Aside0.mk (Kd.R_below (ra_ HO_12.out) hb)
       have n3_ := Aside0.mk (Kd.R_elder' (ra_ HO_436001.out) (Kd.R_base ho0) hb)
       have n4_ := Aside0.mk (Kd.R_lower (Kd.R_new' ho0 (Kd.R_lt (ra_ HO_436001.out))) (below_size (bl2_ HB.out GE417.out GE435.out)))
       have n5_ := Aside0.mk (blk_below (g := gb417) (o := .cells #[.int .i64 a0_0, .slice A0_1 l0_1.length c0_1] 24 (0, 0)) (bk_ BK417.out) hb)
       have n6_ := Aside0.mk (blk_below (g := gb435) (o := .cells #[.int .i64 t431, .slice Ao35 t432.length co35] 29 (0, 0)) (bk_ BK435.out) hb)
       have n7_ := Aside0.mk (below_step (bl2_ HB.out GE417.out GE435.out) hb)
       clear HO_8
       clear HO_11
       clear HO_12
       clear HO_436001
       clear BK417
       clear BK435
       clear HB
       have HO_8 := n0_
       have HO_11 := n1_
       have HO_12 := n2_
       have HO_436001 := n3_
       have HO447 := n4_
       have BK417 := n5_
       have BK435 := n6_
       have HB := n7_
       clear n0_ n1_ n2_ n3_ n4_ n5_ n6_ n7_
       (try clear hb)
       (try clear hb2)
       (try clear hk)
       (try clear hi)
       (try clear ho0)
       obtain ⟨Ao121, co121, eo121⟩ := Kd.R_slice HO447.out
       (first | subst eo121 | (injection eo121 with f1_ f2_ f3_; have f4_ := f1_.symm; have f5_ := f3_.symm; clear f1_ f2_ f3_; subst f4_; subst f5_))
       refine hK.out _ _ ⟨(blk_cell BK435.out 0).trans rfl, (blk_cell BK435.out 1).trans rfl, (blk_cell BK417.out 0).trans rfl, (blk_cell BK417.out 1).trans rfl⟩ (fun hHeld => ?_)
       clear hK K
       refine norm_ (a' := ?_) ?_ ?_
       rotate_left
       ·show Act.put _ (some 60) _ = _
        simp only [Act.put, List.setIfInBounds_toArray, List.set_cons_zero, List.set_cons_succ, i64_w, i32_w]
        rfl
       refine one_ (i := 3) (N := some 61) #[true,true,true,true,false] rfl rfl (by kernel_rfl) (by decide) (fun K hK => ?_)
       refine goes_ Try.func18 (by kernel_rfl) rfl #[.agg #[.int .i64 t431, .slice Ao35 t432.length co35], .agg #[.int .i64 t444, .slice Ao121 t445.length co121]] (by rfl) rfl rfl mp_ ?_
       with_reducible refine (laws_eqTree.calls kj19 t431 _ _ t432 t444 _ _ t445 false _ ?side1 ?side2 ?side3 ?side4 A50.out).mono ?_
       (case side1 => exact ca_ (Kd.R_reads' HO_436001.out).2.2)
       (case side2 => exact (Kd.R_reads' HO_436001.out).2.1)
       (case side3 => exact ca_ (Kd.R_reads' HO447.out).2.2)
       (case side4 => exact (Kd.R_reads' HO447.out).2.1)
       rintro e w122 ⟨rfl, hb⟩
       refine ⟨_, rfl, ?_⟩
       have n0_ := Aside0.mk (Kd.R_below (ra_ HO_8.out) hb)
       have n1_ := Aside0.mk (Kd.R_below (ra_ HO_11.out) hb)
       have n2_ := Aside0.mk (Kd.R_below (ra_ HO_12.out) hb)
       have n3_ := Aside0.mk (Kd.R_below (ra_ HO_436001.out) hb)
       have n4_ := Aside0.mk (Kd.R_below (ra_ HO447.out) hb)
       have n5_ := Aside0.mk (blk_below (g := gb417) (o := .cells #[.int .i64 a0_0, .slice A0_1 l0_1.length c0_1] 24 (0, 0)) (bk_ BK417.out) hb)
       have n6_ := Aside0.mk (blk_below (g := gb435) (o := .cells #[.int .i64 t431, .slice Ao35 t432.length co35] 29 (0, 0)) (bk_ BK435.out) hb)
       have n7_ := Aside0.mk (below_step (bl2_ HB.out GE417.out GE435.out) hb)
       clear HO_8
       clear HO_11
       clear HO_12
       clear HO_436001
       clear HO447
       clear BK417
       clear BK435
       clear HB
       have HO_8 := n0_
       have HO_11 := n1_
       have HO_12 := n2_
       have HO_436001 := n3_
       have HO447 := n4_
       have BK417 := n5_
       have BK435 := n6_
       have HB := n7_
       clear n0_ n1_ n2_ n3_ n4_ n5_ n6_ n7_
       (try clear hb)
       (try clear hb2)
       (try clear hk)
       (try clear hi)
       refine hK.out _ _ ⟨(blk_cell BK435.out 0).trans rfl, (blk_cell BK435.out 1).trans rfl, (blk_cell BK417.out 0).trans rfl, (blk_cell BK417.out 1).trans rfl⟩ (fun hHeld => ?_)
       clear hK K
       refine norm_ (a' := ?_) ?_ ?_
       rotate_left
       ·show Act.put _ (some 61) _ = _
        simp only [Act.put, List.setIfInBounds_toArray, List.set_cons_zero, List.set_cons_succ, i64_w, i32_w]
        rfl
       refine puz_ 4 (some 62) #[true,true,true,true,true] rfl rfl (by kernel_rfl) ?_
       refine done_ (by kernel_rfl) ?_
       try go_wp2
       go_ret
       exact ⟨re_, bl2_ HB.out GE417.out GE435.out⟩

end Go.Proofs.Ytnbhnkpefhdgjaa.I
