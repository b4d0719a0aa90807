/- For functions of the translation: a Lean function each, and that the call of the Go function comes to its answer. Written by this session's own program (myprint.py, over the kit's printer). -/
import Derived.Test.YtnbhnkpefhdgjaaHx0
import Derived.Test.YtnbhnkpefhdgjaaHx1
import Derived.Test.YtnbhnkpefhdgjaaHx12
import Derived.Test.YtnbhnkpefhdgjaaHx14
--compacted
namespace Go.Proofs.Ytnbhnkpefhdgjaa.H
open Go.RowKit Go.Proofs.YtnbhnkpefhdgjaaW.PrintWords Go.Proofs.YtnbhnkpefhdgjaaW.PrintLast Go.Proofs.YtnbhnkpefhdgjaaW.PrintMore
attribute [local go_sem] max2_int min2_int max_two min_two max_three min_three max_four min_four   -- for this text's walks alone
set_option linter.unusedVariables false
set_option linter.unusedSimpArgs false

/-! ### laws_FnExactTreeWay: function 6 -/
def laws_FnExactTreeWay.j0 : Nat → Int → Int → List Int → List Int → Bool → Int → List (S104) → Option (Bool)
 | 0, _, _, _, _, _, _, _ => none
 | k + 1, x1, x2, x8, x10, x50, x333000, x333001 => if x50 = true then (some false) else ((laws_markInt64S.f k x10 1).bind fun bt358 => ((laws_heldInt64S.f k bt358.2 1).bind fun t360 => (if t360 < 0 then (some false) else (if t360 = bt358.1 then ((laws_toTree.f k x333000 x333001).bind fun bt361 => ((impl_TreeWay.f k bt361.1 bt361.2 x1 x2).bind fun t365 => ((laws_eqInt64S.f k t365 x8).bind fun t368 => (if t368 = true then ((laws_heldInt64S.f k bt358.2 1).bind fun t369 => (if t369 < 0 then (some false) else (if t369 = bt358.1 then (some true) else (some false)))) else (some false))))) else (some false)))))
def laws_FnExactTreeWay.f (k : Nat) (a0_0 : Int) (l0_1 : List (S104)) (a1 : Int) (a2 : Int) : Option (Bool) := (laws_szTree.f a0_0 l0_1 1048576).bind fun t333 => (if t333 < 0 then (some true) else ((laws_toTree.f k a0_0 l0_1).bind fun bt334 => ((spec_TreeWay.f k bt334.1 bt334.2 a1 a2).bind fun t338 => ((laws_toTree.f k a0_0 l0_1).bind fun bt341 => ((impl_TreeWay.f k bt341.1 bt341.2 a1 a2).bind fun t346 => ((laws_eqInt64S.f k t346 t338).bind fun t349 => (if t349 = true then ((laws_toTree.f k a0_0 l0_1).bind fun bt350 => ((laws_eqTree.f k bt341.1 bt341.2 bt350.1 bt350.2).bind fun t354 => (if t354 = true then ((laws_markTree.f k bt341.1 bt341.2 1).bind fun bt355 => (if bt355.1 < 0 then (laws_FnExactTreeWay.j0 k a1 a2 t338 t346 true a0_0 l0_1) else ((laws_eqInt64S.f k t346 t338).bind fun t357 => (laws_FnExactTreeWay.j0 k a1 a2 t338 t346 (!t357) a0_0 l0_1)))) else (some false)))) else (some false))))))))
theorem laws_FnExactTreeWay.mono_l : ∀ k, (∀ y0 y1 y2 y3 y4 y5 y6, LeO (laws_FnExactTreeWay.j0 k y0 y1 y2 y3 y4 y5 y6) (laws_FnExactTreeWay.j0 (k + 1) y0 y1 y2 y3 y4 y5 y6))
 | 0 => fun _ _ _ _ _ _ _ r h => by simp [laws_FnExactTreeWay.j0] at h
 | k + 1 => by
  have ih0 := laws_FnExactTreeWay.mono_l k
  ·intro y0 y1 y2 y3 y4 y5 y6
   unfold laws_FnExactTreeWay.j0
   repeat' first
   | (with_reducible exact ih0 _ _ _ _ _ _ _)
   | (with_reducible exact impl_TreeWay.mono _ _ _ _ _)
   | (with_reducible exact laws_eqInt64S.mono _ _ _)
   | (with_reducible exact laws_eqTree.mono _ _ _ _ _)
   | (with_reducible exact laws_heldInt64S.mono _ _ _)
   | (with_reducible exact laws_markInt64S.mono _ _ _)
   | (with_reducible exact laws_markTree.mono _ _ _ _)
   | (with_reducible exact laws_toTree.mono _ _ _)
   | (with_reducible exact spec_TreeWay.mono _ _ _ _ _)
   | (with_reducible exact LeO.refl _)
   | (with_reducible exact LeO.none _)
   | (with_reducible refine LeO.ite ?_ ?_)
   | (with_reducible refine LeO.bind ?_ (fun _ => ?_))
   | exact ih0 _ _ _ _ _ _ _
   | exact impl_TreeWay.mono _ _ _ _ _
   | exact laws_eqInt64S.mono _ _ _
   | exact laws_eqTree.mono _ _ _ _ _
   | exact laws_heldInt64S.mono _ _ _
   | exact laws_markInt64S.mono _ _ _
   | exact laws_markTree.mono _ _ _ _
   | exact laws_toTree.mono _ _ _
   | exact spec_TreeWay.mono _ _ _ _ _
   | exact LeO.none _
   | refine LeO.ite ?_ ?_
   | refine LeO.bind ?_ (fun _ => ?_)
theorem laws_FnExactTreeWay.mono : ∀ a0 a1 a2 a3 k, LeO (laws_FnExactTreeWay.f k a0 a1 a2 a3) (laws_FnExactTreeWay.f (k + 1) a0 a1 a2 a3) := by
 intro a0 a1 a2 a3 k
 have ih0 := laws_FnExactTreeWay.mono_l k
 unfold laws_FnExactTreeWay.f
 repeat' first
   | (with_reducible exact ih0 _ _ _ _ _ _ _)
   | (with_reducible exact impl_TreeWay.mono _ _ _ _ _)
   | (with_reducible exact laws_eqInt64S.mono _ _ _)
   | (with_reducible exact laws_eqTree.mono _ _ _ _ _)
   | (with_reducible exact laws_heldInt64S.mono _ _ _)
   | (with_reducible exact laws_markInt64S.mono _ _ _)
   | (with_reducible exact laws_markTree.mono _ _ _ _)
   | (with_reducible exact laws_toTree.mono _ _ _)
   | (with_reducible exact spec_TreeWay.mono _ _ _ _ _)
   | (with_reducible exact LeO.refl _)
   | (with_reducible exact LeO.none _)
   | (with_reducible refine LeO.ite ?_ ?_)
   | (with_reducible refine LeO.bind ?_ (fun _ => ?_))
   | exact ih0 _ _ _ _ _ _ _
   | exact impl_TreeWay.mono _ _ _ _ _
   | exact laws_eqInt64S.mono _ _ _
   | exact laws_eqTree.mono _ _ _ _ _
   | exact laws_heldInt64S.mono _ _ _
   | exact laws_markInt64S.mono _ _ _
   | exact laws_markTree.mono _ _ _ _
   | exact laws_toTree.mono _ _ _
   | exact spec_TreeWay.mono _ _ _ _ _
   | exact LeO.none _
   | refine LeO.ite ?_ ?_
   | refine LeO.bind ?_ (fun _ => ?_)
set_option maxHeartbeats 8000000 in
set_option maxRecDepth 100000 in
theorem laws_FnExactTreeWay.calls (k : Nat) (a0_0 : Int) (A0_1 : Option Addr) (c0_1 : Nat) (l0_1 : List (S104)) (a1 : Int) (a2 : Int) (r : Bool) (w : World) (hr0_1 : Kd.C k104 w A0_1 l0_1.length l0_1) (hc0_1 : l0_1.length ≤ c0_1) (h : laws_FnExactTreeWay.f k a0_0 l0_1 a1 a2 = some r) :
  Calls Try.prog 6 #[.agg #[.int .i64 a0_0, .slice A0_1 l0_1.length c0_1], .int .i64 a1, .int .i64 a2] w fun e w' => e = .returned (.bool r) ∧ Below w.heap.size w w' := by
 have hu24 := Try.underlying24
 have hu29 := Try.underlying29
 have HR0_1 := Aside0.mk hr0_1
 have HC0_1 := Aside0.mk hc0_1
 clear hr0_1 hc0_1
 have HB := Aside0.mk (Below.refl w.heap.size w)
 have H : ((laws_szTree.f a0_0 l0_1 1048576).bind fun t333 => (if t333 < 0 then (some true) else ((laws_toTree.f k a0_0 l0_1).bind fun bt334 => ((spec_TreeWay.f k bt334.1 bt334.2 a1 a2).bind fun t338 => ((laws_toTree.f k a0_0 l0_1).bind fun bt341 => ((impl_TreeWay.f k bt341.1 bt341.2 a1 a2).bind fun t346 => ((laws_eqInt64S.f k t346 t338).bind fun t349 => (if t349 = true then ((laws_toTree.f k a0_0 l0_1).bind fun bt350 => ((laws_eqTree.f k bt341.1 bt341.2 bt350.1 bt350.2).bind fun t354 => (if t354 = true then ((laws_markTree.f k bt341.1 bt341.2 1).bind fun bt355 => (if bt355.1 < 0 then (laws_FnExactTreeWay.j0 k a1 a2 t338 t346 true a0_0 l0_1) else ((laws_eqInt64S.f k t346 t338).bind fun t357 => (laws_FnExactTreeWay.j0 k a1 a2 t338 t346 (!t357) a0_0 l0_1)))) else (some false)))) else (some false))))))))) = some r := h
 clear h
 replace H := Option.bind_eq_some_iff.mp H
 obtain ⟨t333, A40, H⟩ := H
 replace H : (if t333 < 0 then (some true) else ((laws_toTree.f k a0_0 l0_1).bind fun bt334 => ((spec_TreeWay.f k bt334.1 bt334.2 a1 a2).bind fun t338 => ((laws_toTree.f k a0_0 l0_1).bind fun bt341 => ((impl_TreeWay.f k bt341.1 bt341.2 a1 a2).bind fun t346 => ((laws_eqInt64S.f k t346 t338).bind fun t349 => (if t349 = true then ((laws_toTree.f k a0_0 l0_1).bind fun bt350 => ((laws_eqTree.f k bt341.1 bt341.2 bt350.1 bt350.2).bind fun t354 => (if t354 = true then ((laws_markTree.f k bt341.1 bt341.2 1).bind fun bt355 => (if bt355.1 < 0 then (laws_FnExactTreeWay.j0 k a1 a2 t338 t346 true a0_0 l0_1) else ((laws_eqInt64S.f k t346 t338).bind fun t357 => (laws_FnExactTreeWay.j0 k a1 a2 t338 t346 (!t357) a0_0 l0_1)))) else (some false)))) else (some false)))))))) = some r := H
 have A4 := Aside0.mk A40
 clear A40
 by_cases c5 : t333 < 0
 ·rw [if_pos c5] at H
  have c5b0 : decide (t333 < 0) = true := decide_eq_true c5
  clear c5
  obtain rfl := Option.some.inj H
  go_enter Try.func6, Try.ntmps6
  go_wp2_with (first | ((with_reducible refine gate_dst (N := 3) rfl ?_); refine box_event ?hg (N := 3) ?hd (cs := #[.int .i64 a0_0, .slice A0_1 l0_1.length c0_1]) (t := 24) ?hr ?_; (case hd => rfl); (case hg => rfl); (case hr => first | (go_simp; done) | (go_simp; rfl)); intro gb332 hg w6 hbox hb; have n0_ := Aside0.mk (below_step (bl0_ HB.out) hb); have n1_ := Aside0.mk (hbox); have n2_ := Aside0.mk ((by rw [hg]; exact (below_size (bl0_ HB.out)) : w.heap.size ≤ gb332)); have n3_ := Aside0.mk ((by rw [hg]; exact (below_size (bl0_ HB.out)) : w.heap.size ≤ gb332)); clear HB; have HB := n0_; have BK332 := n1_; have GW332 := n2_; have GE332 := n3_; clear n0_ n1_ n2_ n3_; clear hb hbox hg; have hcz7_0 : w6.cell? ⟨gb332, 0, none⟩ = some (.int .i64 a0_0) := (blk_cell BK332.out 0).trans rfl; have hcz7_1 : w6.cell? ⟨gb332, 1, none⟩ = some (.slice A0_1 l0_1.length c0_1) := (blk_cell BK332.out 1).trans rfl; have hfz7_0 := blk_frozen BK332.out 0; have hfz7_1 := blk_frozen BK332.out 1) | ((with_reducible refine gate_callee (f := 14) rfl ?_); refine goesL_ (some 17) rfl rfl Try.func14 (by kernel_rfl) rfl #[.agg #[.int .i64 a0_0, .slice A0_1 l0_1.length c0_1], .int .i64 1048576] rfl mp_ ?_; (with_reducible refine (laws_szTree.calls a0_0 _ _ l0_1 1048576 t333 _ ?side1 ?side2 A4.out).mono ?_); (case side1 => repeat (first | exact (Kd.C_below HR0_1.out HB.out) | (with_reducible refine Kd.C_alloc ?_ _) | (with_reducible refine Kd.C_drewN ?_ _) | (with_reducible refine Kd.C_drew ?_))); (case side2 => exact HC0_1.out); rintro e w8 ⟨rfl, hb⟩; refine ⟨_, rfl, ?_⟩; have n0_ := Aside0.mk (blk_below (g := gb332) (o := .cells #[.int .i64 a0_0, .slice A0_1 l0_1.length c0_1] 24 (0, 0)) (bk_ BK332.out) hb); have n1_ := Aside0.mk (below_step (bl1_ HB.out GE332.out) hb); clear BK332; clear HB; have BK332 := n0_; have HB := n1_; clear n0_ n1_; (try clear hb); (try clear hb2); (try clear hk); (try clear hi)))
  go_ret
  exact ⟨by first | rfl | (simp [errW_none, errW_some] <;> rfl) | (simp [*, errW_none, errW_some] <;> rfl), by repeat (first | (with_reducible first | exact HB.out | apply below_alloc | apply pw_below_drewN | apply below_drew1 | refine below_set ?_ GE332.out) | exact HB.out)⟩
 ·rw [if_neg c5] at H
  have c5b0 : decide (t333 < 0) = false := decide_eq_false c5
  clear c5
  replace H := Option.bind_eq_some_iff.mp H
  obtain ⟨⟨t334, t335⟩, A90, H⟩ := H
  replace H : ((spec_TreeWay.f k t334 t335 a1 a2).bind fun t338 => ((laws_toTree.f k a0_0 l0_1).bind fun bt341 => ((impl_TreeWay.f k bt341.1 bt341.2 a1 a2).bind fun t346 => ((laws_eqInt64S.f k t346 t338).bind fun t349 => (if t349 = true then ((laws_toTree.f k a0_0 l0_1).bind fun bt350 => ((laws_eqTree.f k bt341.1 bt341.2 bt350.1 bt350.2).bind fun t354 => (if t354 = true then ((laws_markTree.f k bt341.1 bt341.2 1).bind fun bt355 => (if bt355.1 < 0 then (laws_FnExactTreeWay.j0 k a1 a2 t338 t346 true a0_0 l0_1) else ((laws_eqInt64S.f k t346 t338).bind fun t357 => (laws_FnExactTreeWay.j0 k a1 a2 t338 t346 (!t357) a0_0 l0_1)))) else (some false)))) else (some false)))))) = some r := H
  have A9 := Aside0.mk A90
  clear A90
  replace H := Option.bind_eq_some_iff.mp H
  obtain ⟨t338, A100, H⟩ := H
  replace H : ((laws_toTree.f k a0_0 l0_1).bind fun bt341 => ((impl_TreeWay.f k bt341.1 bt341.2 a1 a2).bind fun t346 => ((laws_eqInt64S.f k t346 t338).bind fun t349 => (if t349 = true then ((laws_toTree.f k a0_0 l0_1).bind fun bt350 => ((laws_eqTree.f k bt341.1 bt341.2 bt350.1 bt350.2).bind fun t354 => (if t354 = true then ((laws_markTree.f k bt341.1 bt341.2 1).bind fun bt355 => (if bt355.1 < 0 then (laws_FnExactTreeWay.j0 k a1 a2 t338 t346 true a0_0 l0_1) else ((laws_eqInt64S.f k t346 t338).bind fun t357 => (laws_FnExactTreeWay.j0 k a1 a2 t338 t346 (!t357) a0_0 l0_1)))) else (some false)))) else (some false))))) = some r := H
  have A10 := Aside0.mk A100
  clear A100
  replace H := Option.bind_eq_some_iff.mp H
  obtain ⟨⟨t341, t342⟩, A110, H⟩ := H
  replace H : ((impl_TreeWay.f k t341 t342 a1 a2).bind fun t346 => ((laws_eqInt64S.f k t346 t338).bind fun t349 => (if t349 = true then ((laws_toTree.f k a0_0 l0_1).bind fun bt350 => ((laws_eqTree.f k t341 t342 bt350.1 bt350.2).bind fun t354 => (if t354 = true then ((laws_markTree.f k t341 t342 1).bind fun bt355 => (if bt355.1 < 0 then (laws_FnExactTreeWay.j0 k a1 a2 t338 t346 true a0_0 l0_1) else ((laws_eqInt64S.f k t346 t338).bind fun t357 => (laws_FnExactTreeWay.j0 k a1 a2 t338 t346 (!t357) a0_0 l0_1)))) else (some false)))) else (some false)))) = some r := H
  have A11 := Aside0.mk A110
  clear A110
  replace H := Option.bind_eq_some_iff.mp H
  obtain ⟨t346, A120, H⟩ := H
  replace H : ((laws_eqInt64S.f k t346 t338).bind fun t349 => (if t349 = true then ((laws_toTree.f k a0_0 l0_1).bind fun bt350 => ((laws_eqTree.f k t341 t342 bt350.1 bt350.2).bind fun t354 => (if t354 = true then ((laws_markTree.f k t341 t342 1).bind fun bt355 => (if bt355.1 < 0 then (laws_FnExactTreeWay.j0 k a1 a2 t338 t346 true a0_0 l0_1) else ((laws_eqInt64S.f k t346 t338).bind fun t357 => (laws_FnExactTreeWay.j0 k a1 a2 t338 t346 (!t357) a0_0 l0_1)))) else (some false)))) else (some false))) = some r := H
  have A12 := Aside0.mk A120
  clear A120
  replace H := Option.bind_eq_some_iff.mp H
  obtain ⟨t349, A130, H⟩ := H
  replace H : (if t349 = true then ((laws_toTree.f k a0_0 l0_1).bind fun bt350 => ((laws_eqTree.f k t341 t342 bt350.1 bt350.2).bind fun t354 => (if t354 = true then ((laws_markTree.f k t341 t342 1).bind fun bt355 => (if bt355.1 < 0 then (laws_FnExactTreeWay.j0 k a1 a2 t338 t346 true a0_0 l0_1) else ((laws_eqInt64S.f k t346 t338).bind fun t357 => (laws_FnExactTreeWay.j0 k a1 a2 t338 t346 (!t357) a0_0 l0_1)))) else (some false)))) else (some false)) = some r := H
  have A13 := Aside0.mk A130
  clear A130
  by_cases c14 : t349 = true
  ·subst c14
   have H1 : ((laws_toTree.f k a0_0 l0_1).bind fun bt350 => ((laws_eqTree.f k t341 t342 bt350.1 bt350.2).bind fun t354 => (if t354 = true then ((laws_markTree.f k t341 t342 1).bind fun bt355 => (if bt355.1 < 0 then (laws_FnExactTreeWay.j0 k a1 a2 t338 t346 true a0_0 l0_1) else ((laws_eqInt64S.f k t346 t338).bind fun t357 => (laws_FnExactTreeWay.j0 k a1 a2 t338 t346 (!t357) a0_0 l0_1)))) else (some false)))) = some r := by rw [if_pos rfl] at H; exact H
   clear H
   have H := H1
   clear H1
   replace H := Option.bind_eq_some_iff.mp H
   obtain ⟨⟨t350, t351⟩, A150, H⟩ := H
   replace H : ((laws_eqTree.f k t341 t342 t350 t351).bind fun t354 => (if t354 = true then ((laws_markTree.f k t341 t342 1).bind fun bt355 => (if bt355.1 < 0 then (laws_FnExactTreeWay.j0 k a1 a2 t338 t346 true a0_0 l0_1) else ((laws_eqInt64S.f k t346 t338).bind fun t357 => (laws_FnExactTreeWay.j0 k a1 a2 t338 t346 (!t357) a0_0 l0_1)))) else (some false))) = some r := H
   have A15 := Aside0.mk A150
   clear A150
   replace H := Option.bind_eq_some_iff.mp H
   obtain ⟨t354, A160, H⟩ := H
   replace H : (if t354 = true then ((laws_markTree.f k t341 t342 1).bind fun bt355 => (if bt355.1 < 0 then (laws_FnExactTreeWay.j0 k a1 a2 t338 t346 true a0_0 l0_1) else ((laws_eqInt64S.f k t346 t338).bind fun t357 => (laws_FnExactTreeWay.j0 k a1 a2 t338 t346 (!t357) a0_0 l0_1)))) else (some false)) = some r := H
   have A16 := Aside0.mk A160
   clear A160
   by_cases c17 : t354 = true
   ·subst c17
    have H1 : ((laws_markTree.f k t341 t342 1).bind fun bt355 => (if bt355.1 < 0 then (laws_FnExactTreeWay.j0 k a1 a2 t338 t346 true a0_0 l0_1) else ((laws_eqInt64S.f k t346 t338).bind fun t357 => (laws_FnExactTreeWay.j0 k a1 a2 t338 t346 (!t357) a0_0 l0_1)))) = some r := by rw [if_pos rfl] at H; exact H
    clear H
    have H := H1
    clear H1
    replace H := Option.bind_eq_some_iff.mp H
    obtain ⟨⟨t355, t356⟩, A180, H⟩ := H
    replace H : (if t355 < 0 then (laws_FnExactTreeWay.j0 k a1 a2 t338 t346 true a0_0 l0_1) else ((laws_eqInt64S.f k t346 t338).bind fun t357 => (laws_FnExactTreeWay.j0 k a1 a2 t338 t346 (!t357) a0_0 l0_1))) = some r := H
    have A18 := Aside0.mk A180
    clear A180
    have HC19 := Aside0.mk H
    clear H
    go_enter Try.func6, Try.ntmps6
    try go_wp2_with (first | ((with_reducible refine gate_dst (N := 3) rfl ?_); refine box_event ?hg (N := 3) ?hd (cs := #[.int .i64 a0_0, .slice A0_1 l0_1.length c0_1]) (t := 24) ?hr ?_; (case hd => rfl); (case hg => rfl); (case hr => first | (go_simp; done) | (go_simp; rfl)); intro gb332 hg w20 hbox hb; have n0_ := Aside0.mk (below_step (bl0_ HB.out) hb); have n1_ := Aside0.mk (hbox); have n2_ := Aside0.mk ((by rw [hg]; exact (below_size (bl0_ HB.out)) : w.heap.size ≤ gb332)); have n3_ := Aside0.mk ((by rw [hg]; exact (below_size (bl0_ HB.out)) : w.heap.size ≤ gb332)); clear HB; have HB := n0_; have BK332 := n1_; have GW332 := n2_; have GE332 := n3_; clear n0_ n1_ n2_ n3_; clear hb hbox hg; have hcz21_0 : w20.cell? ⟨gb332, 0, none⟩ = some (.int .i64 a0_0) := (blk_cell BK332.out 0).trans rfl; have hcz21_1 : w20.cell? ⟨gb332, 1, none⟩ = some (.slice A0_1 l0_1.length c0_1) := (blk_cell BK332.out 1).trans rfl; have hfz21_0 := blk_frozen BK332.out 0; have hfz21_1 := blk_frozen BK332.out 1) | ((with_reducible refine gate_callee (f := 14) rfl ?_); refine goesL_ (some 17) rfl rfl Try.func14 (by kernel_rfl) rfl #[.agg #[.int .i64 a0_0, .slice A0_1 l0_1.length c0_1], .int .i64 1048576] rfl mp_ ?_; (with_reducible refine (laws_szTree.calls a0_0 _ _ l0_1 1048576 t333 _ ?side1 ?side2 A4.out).mono ?_); (case side1 => repeat (first | exact (Kd.C_below HR0_1.out HB.out) | (with_reducible refine Kd.C_alloc ?_ _) | (with_reducible refine Kd.C_drewN ?_ _) | (with_reducible refine Kd.C_drew ?_))); (case side2 => exact HC0_1.out); rintro e w22 ⟨rfl, hb⟩; refine ⟨_, rfl, ?_⟩; have n0_ := Aside0.mk (blk_below (g := gb332) (o := .cells #[.int .i64 a0_0, .slice A0_1 l0_1.length c0_1] 24 (0, 0)) (bk_ BK332.out) hb); have n1_ := Aside0.mk (below_step (bl1_ HB.out GE332.out) hb); clear BK332; clear HB; have BK332 := n0_; have HB := n1_; clear n0_ n1_; (try clear hb); (try clear hb2); (try clear hk); (try clear hi); have hcz23_0 : w22.cell? ⟨gb332, 0, none⟩ = some (.int .i64 a0_0) := (blk_cell BK332.out 0).trans rfl; have hcz23_1 : w22.cell? ⟨gb332, 1, none⟩ = some (.slice A0_1 l0_1.length c0_1) := (blk_cell BK332.out 1).trans rfl; have hfz23_0 := blk_frozen BK332.out 0; have hfz23_1 := blk_frozen BK332.out 1) | ((with_reducible refine gate_callee (f := 16) rfl ?_); refine goesL_ (some 21) rfl rfl Try.func16 (by kernel_rfl) rfl #[.agg #[.int .i64 a0_0, .slice A0_1 l0_1.length c0_1]] rfl mp_ ?_; (with_reducible refine (laws_toTree.calls k a0_0 _ _ l0_1 t334 t335 _ ?side1 ?side2 A9.out).mono ?_); (case side1 => repeat (first | exact (Kd.C_below HR0_1.out HB.out) | (with_reducible refine Kd.C_alloc ?_ _) | (with_reducible refine Kd.C_drewN ?_ _) | (with_reducible refine Kd.C_drew ?_))); (case side2 => exact HC0_1.out); rintro e w24 ⟨v336, rfl, ho0, hb⟩; refine ⟨_, rfl, ?_⟩; have n0_ := Aside0.mk (Kd.R_lower ho0 (below_size (bl1_ HB.out GE332.out))); have n1_ := Aside0.mk (blk_below (g := gb332) (o := .cells #[.int .i64 a0_0, .slice A0_1 l0_1.length c0_1] 24 (0, 0)) (bk_ BK332.out) hb); have n2_ := Aside0.mk (below_step (bl1_ HB.out GE332.out) hb); clear BK332; clear HB; have HO337 := n0_; have BK332 := n1_; have HB := n2_; clear n0_ n1_ n2_; (try clear hb); (try clear hb2); (try clear hk); (try clear hi); (try clear ho0); obtain ⟨Ao25, co25, eo25⟩ := Kd.R_slice HO337.out; subst eo25) | ((with_reducible refine gate_callee (f := 23) rfl ?_); refine goesL_ (some 24) rfl rfl Try.func23 (by kernel_rfl) rfl #[.agg #[.int .i64 t334, .slice Ao25 t335.length co25], .int .i64 a1, .int .i64 a2] rfl mp_ ?_; (with_reducible refine (spec_TreeWay.calls k t334 _ _ t335 a1 a2 t338 _ ?side1 ?side2 A10.out).mono ?_); (case side1 => repeat (first | exact (Kd.R_reads' HO337.out).2.2 | (with_reducible refine Kd.C_alloc ?_ _) | (with_reducible refine Kd.C_drewN ?_ _) | (with_reducible refine Kd.C_drew ?_))); (case side2 => exact (Kd.R_reads' HO337.out).2.1); rintro e w26 ⟨v339, rfl, ho0, hb⟩; refine ⟨_, rfl, ?_⟩; have n0_ := Aside0.mk (Kd.R_below (ra_ HO337.out) hb); have n1_ := Aside0.mk (Kd.R_lower ho0 (below_size (bl1_ HB.out GE332.out))); have n2_ := Aside0.mk (blk_below (g := gb332) (o := .cells #[.int .i64 a0_0, .slice A0_1 l0_1.length c0_1] 24 (0, 0)) (bk_ BK332.out) hb); have n3_ := Aside0.mk (below_step (bl1_ HB.out GE332.out) hb); clear HO337; clear BK332; clear HB; have HO337 := n0_; have HO340 := n1_; have BK332 := n2_; have HB := n3_; clear n0_ n1_ n2_ n3_; (try clear hb); (try clear hb2); (try clear hk); (try clear hi); (try clear ho0); have hcz27_0 : w26.cell? ⟨gb332, 0, none⟩ = some (.int .i64 a0_0) := (blk_cell BK332.out 0).trans rfl; have hcz27_1 : w26.cell? ⟨gb332, 1, none⟩ = some (.slice A0_1 l0_1.length c0_1) := (blk_cell BK332.out 1).trans rfl; have hfz27_0 := blk_frozen BK332.out 0; have hfz27_1 := blk_frozen BK332.out 1) | ((with_reducible refine gate_callee (f := 16) rfl ?_); refine goesL_ (some 26) rfl rfl Try.func16 (by kernel_rfl) rfl #[.agg #[.int .i64 a0_0, .slice A0_1 l0_1.length c0_1]] rfl mp_ ?_; (with_reducible refine (laws_toTree.calls k a0_0 _ _ l0_1 t341 t342 _ ?side1 ?side2 A11.out).mono ?_); (case side1 => repeat (first | exact (Kd.C_below HR0_1.out HB.out) | (with_reducible refine Kd.C_alloc ?_ _) | (with_reducible refine Kd.C_drewN ?_ _) | (with_reducible refine Kd.C_drew ?_))); (case side2 => exact HC0_1.out); rintro e w28 ⟨v343, rfl, ho0, hb⟩; refine ⟨_, rfl, ?_⟩; have n0_ := Aside0.mk (Kd.R_elder' (ra_ HO337.out) (Kd.R_base ho0) hb); have n1_ := Aside0.mk (Kd.R_below (ra_ HO340.out) hb); have n2_ := Aside0.mk (Kd.R_lower (Kd.R_new' ho0 (Kd.R_lt (ra_ HO337.out))) (below_size (bl1_ HB.out GE332.out))); have n3_ := Aside0.mk (blk_below (g := gb332) (o := .cells #[.int .i64 a0_0, .slice A0_1 l0_1.length c0_1] 24 (0, 0)) (bk_ BK332.out) hb); have n4_ := Aside0.mk (below_step (bl1_ HB.out GE332.out) hb); clear HO337; clear HO340; clear BK332; clear HB; have HO337 := n0_; have HO340 := n1_; have HO344 := n2_; have BK332 := n3_; have HB := n4_; clear n0_ n1_ n2_ n3_ n4_; (try clear hb); (try clear hb2); (try clear hk); (try clear hi); (try clear ho0)) | ((with_reducible refine gate_dst (N := 9) rfl ?_); refine box_event ?hg (N := 9) ?hd (cs := #[.int .i64 0, .slice none 0 0]) (t := 29) ?hr ?_; (case hd => rfl); (case hg => rfl); (case hr => first | (go_simp; done) | (go_simp; rfl)); intro gb345 hg w29 hbox hb; have n0_ := Aside0.mk (Kd.R_below (ra_ HO337.out) hb); have n1_ := Aside0.mk (Kd.R_below (ra_ HO340.out) hb); have n2_ := Aside0.mk (Kd.R_below (ra_ HO344.out) hb); have n3_ := Aside0.mk (blk_below (g := gb332) (o := .cells #[.int .i64 a0_0, .slice A0_1 l0_1.length c0_1] 24 (0, 0)) (bk_ BK332.out) hb); have n4_ := Aside0.mk (below_step (bl1_ HB.out GE332.out) hb); have n5_ := Aside0.mk (hbox); have n6_ := Aside0.mk ((by rw [hg]; exact (below_size (bl1_ HB.out GE332.out)) : w.heap.size ≤ gb345)); have n7_ := Aside0.mk ((by rw [hg]; exact (below_size (bl1_ HB.out GE332.out)) : w.heap.size ≤ gb345)); have n8_ := Aside0.mk ((by rw [hg]; exact Nat.ne_of_lt (blk_lt (bk_ BK332.out)) : gb332 ≠ gb345)); have n9_ := Aside0.mk ((by rw [hg]; exact Nat.ne_of_gt (blk_lt (bk_ BK332.out)) : gb345 ≠ gb332)); clear HO337; clear HO340; clear HO344; clear BK332; clear HB; have HO337 := n0_; have HO340 := n1_; have HO344 := n2_; have BK332 := n3_; have HB := n4_; have BK345 := n5_; have GW345 := n6_; have GE345 := n7_; have NB332_345 := n8_; have NB345_332 := n9_; clear n0_ n1_ n2_ n3_ n4_ n5_ n6_ n7_ n8_ n9_; clear hb hbox hg; have hnb30 := NB345_332.out; have hnc30 := NB332_345.out; have hcz31_0 : w29.cell? ⟨gb345, 0, none⟩ = some (.int .i64 0) := (blk_cell BK345.out 0).trans rfl; have hcz31_1 : w29.cell? ⟨gb345, 1, none⟩ = some (.slice none 0 0) := (blk_cell BK345.out 1).trans rfl; have hfz31_0 := blk_frozen BK345.out 0; have hfz31_1 := blk_frozen BK345.out 1; obtain ⟨Ao32, co32, eo32⟩ := Kd.R_slice HO344.out; subst eo32) | ((with_reducible refine gate_callee (f := 24) rfl ?_); refine goesL_ (some 30) rfl rfl Try.func24 (by kernel_rfl) rfl #[.agg #[.int .i64 t341, .slice Ao32 t342.length co32], .int .i64 a1, .int .i64 a2] rfl mp_ ?_; (with_reducible refine (impl_TreeWay.calls k t341 _ _ t342 a1 a2 t346 _ ?side1 ?side2 A12.out).mono ?_); (case side1 => refine (Kd.R_reads' (e := 71) (base := w.heap.size) (ok := fun k_ => (True ∧ some k_ ≠ (.slice Ao25 t335.length co25 : Value).ownBlock)) (n := t342.length) (c := co32) ?_).2.2; exact (by (with_reducible repeat (first | apply Kd.R_alloc | apply Kd.R_drewN | apply Kd.R_drew)); exact (Kd.R_mono (Kd.R_far (p := ⟨gb345, 1, none⟩) (Kd.R_far (p := ⟨gb345, 0, none⟩) (Kd.R_types HO344.out BK345.out (by decide)) (fun _ hk => hk.2) (.int .i64 t341)) (fun _ hk => hk.2) (.slice Ao32 t342.length co32)) (fun _ h_ => h_.1)))); (case side2 => exact (Kd.R_reads' HO344.out).2.1); rintro e w33 ⟨v347, rfl, ho0, hb⟩; refine ⟨_, rfl, ?_⟩; have n0_ := Aside0.mk (Kd.R_below (by (with_reducible repeat (first | apply Kd.R_alloc | apply Kd.R_drewN | apply Kd.R_drew)); exact (Kd.R_mono (Kd.R_far (p := ⟨gb345, 1, none⟩) (Kd.R_far (p := ⟨gb345, 0, none⟩) (Kd.R_types HO337.out BK345.out (by decide)) (fun _ hk => hk.2) (.int .i64 t341)) (fun _ hk => hk.2) (.slice Ao32 t342.length co32)) (fun _ h_ => h_.1))) hb); have n1_ := Aside0.mk (Kd.R_elder' (by (with_reducible repeat (first | apply Kd.R_alloc | apply Kd.R_drewN | apply Kd.R_drew)); exact (Kd.R_mono (Kd.R_far (p := ⟨gb345, 1, none⟩) (Kd.R_far (p := ⟨gb345, 0, none⟩) (Kd.R_types HO340.out BK345.out (by decide)) (fun _ hk => hk.2) (.int .i64 t341)) (fun _ hk => hk.2) (.slice Ao32 t342.length co32)) (fun _ h_ => h_.1))) (Kd.R_base ho0) hb); have n2_ := Aside0.mk (Kd.R_below (by (with_reducible repeat (first | apply Kd.R_alloc | apply Kd.R_drewN | apply Kd.R_drew)); exact (Kd.R_mono (Kd.R_far (p := ⟨gb345, 1, none⟩) (Kd.R_far (p := ⟨gb345, 0, none⟩) (Kd.R_types HO344.out BK345.out (by decide)) (fun _ hk => hk.2) (.int .i64 t341)) (fun _ hk => hk.2) (.slice Ao32 t342.length co32)) (fun _ h_ => h_.1))) hb); have n3_ := Aside0.mk (Kd.R_lower (Kd.R_new' ho0 (Kd.R_lt (by (with_reducible repeat (first | apply Kd.R_alloc | apply Kd.R_drewN | apply Kd.R_drew)); exact (Kd.R_mono (Kd.R_far (p := ⟨gb345, 1, none⟩) (Kd.R_far (p := ⟨gb345, 0, none⟩) (Kd.R_types HO340.out BK345.out (by decide)) (fun _ hk => hk.2) (.int .i64 t341)) (fun _ hk => hk.2) (.slice Ao32 t342.length co32)) (fun _ h_ => h_.1))))) (below_size (bl2_ HB.out GE332.out GE345.out))); have n4_ := Aside0.mk (blk_below (g := gb332) (o := .cells #[.int .i64 a0_0, .slice A0_1 l0_1.length c0_1] 24 (0, 0)) (by (with_reducible repeat (first | refine blk_drewN ?_ _ | refine blk_drew ?_ | refine blk_alloc ?_ _)); refine blk_far ?_ NB332_345.out _; (with_reducible repeat (first | refine blk_drewN ?_ _ | refine blk_drew ?_ | refine blk_alloc ?_ _)); refine blk_far ?_ NB332_345.out _; (with_reducible repeat (first | refine blk_drewN ?_ _ | refine blk_drew ?_ | refine blk_alloc ?_ _)); exact BK332.out) hb); have n5_ := Aside0.mk (blk_below (g := gb345) (o := .cells #[.int .i64 t341, .slice Ao32 t342.length co32] 29 (0, 0)) (by (with_reducible repeat (first | refine blk_drewN ?_ _ | refine blk_drew ?_ | refine blk_alloc ?_ _)); refine blk_put (cs := #[.int .i64 t341, .slice none 0 0]) ?_ 1 _ rfl; (with_reducible repeat (first | refine blk_drewN ?_ _ | refine blk_drew ?_ | refine blk_alloc ?_ _)); refine blk_put (cs := #[.int .i64 0, .slice none 0 0]) ?_ 0 _ rfl; (with_reducible repeat (first | refine blk_drewN ?_ _ | refine blk_drew ?_ | refine blk_alloc ?_ _)); exact BK345.out) hb); have n6_ := Aside0.mk (below_step (bl2_ HB.out GE332.out GE345.out) hb); clear HO337; clear HO340; clear HO344; clear BK332; clear BK345; clear HB; have HO337 := n0_; have HO340 := n1_; have HO344 := n2_; have HO348 := n3_; have BK332 := n4_; have BK345 := n5_; have HB := n6_; clear n0_ n1_ n2_ n3_ n4_ n5_ n6_; (try clear hb); (try clear hb2); (try clear hk); (try clear hi); (try clear ho0); obtain ⟨Ao34, co34, eo34⟩ := Kd.R_slice HO348.out; subst eo34; obtain ⟨Ao35, co35, eo35⟩ := Kd.R_slice HO340.out; subst eo35) | ((with_reducible refine gate_callee (f := 25) rfl ?_); refine goesL_ (some 33) rfl rfl Try.func25 (by kernel_rfl) rfl #[.slice Ao34 t346.length co34, .slice Ao35 t338.length co35] rfl mp_ ?_; (with_reducible refine (laws_eqInt64S.calls k _ _ t346 _ _ t338 true _ ?side1 ?side2 ?side3 ?side4 A13.out).mono ?_); (case side1 => repeat (first | exact (Kd.R_reads' HO348.out).2.2 | (with_reducible refine Kd.C_alloc ?_ _) | (with_reducible refine Kd.C_drewN ?_ _) | (with_reducible refine Kd.C_drew ?_))); (case side2 => exact (Kd.R_reads' HO348.out).2.1); (case side3 => repeat (first | exact (Kd.R_reads' HO340.out).2.2 | (with_reducible refine Kd.C_alloc ?_ _) | (with_reducible refine Kd.C_drewN ?_ _) | (with_reducible refine Kd.C_drew ?_))); (case side4 => exact (Kd.R_reads' HO340.out).2.1); rintro e w' ⟨rfl, ⟨nd, rfl⟩⟩; refine ⟨_, rfl, ?_⟩))
    (try (rw [drewN_self w33]; generalize hq_ : World.drewN w33 _ = w33; have n0_ : Aside0 (Kd.R k71 71 w33 w.heap.size (fun k_ => (True ∧ some k_ ≠ (.slice Ao32 t342.length co32 : Value).ownBlock)) (.slice Ao25 t335.length co25) t335) := ⟨by rw [← hq_]; exact (ra_ HO337.out)⟩; have n1_ : Aside0 (Kd.R (Kd.int .i64) 2 w33 w.heap.size (fun k_ => (True ∧ some k_ ≠ (.slice Ao34 t346.length co34 : Value).ownBlock)) (.slice Ao35 t338.length co35) t338) := ⟨by rw [← hq_]; exact (ra_ HO340.out)⟩; have n2_ : Aside0 (Kd.R k71 71 w33 w.heap.size (fun k_ => (True ∧ some k_ ≠ (.slice Ao25 t335.length co25 : Value).ownBlock)) (.slice Ao32 t342.length co32) t342) := ⟨by rw [← hq_]; exact (ra_ HO344.out)⟩; have n3_ : Aside0 (Kd.R (Kd.int .i64) 2 w33 w.heap.size (fun k_ => (True ∧ some k_ ≠ (.slice Ao35 t338.length co35 : Value).ownBlock)) (.slice Ao34 t346.length co34) t346) := ⟨by rw [← hq_]; exact (ra_ HO348.out)⟩; have n4_ : Aside0 (w33.heap[gb332]? = some (.cells #[.int .i64 a0_0, .slice A0_1 l0_1.length c0_1] 24 (0, 0))) := ⟨by rw [← hq_]; exact (bk_ BK332.out)⟩; have n5_ : Aside0 (w33.heap[gb345]? = some (.cells #[.int .i64 t341, .slice Ao32 t342.length co32] 29 (0, 0))) := ⟨by rw [← hq_]; exact (bk_ BK345.out)⟩; have n6_ : Aside0 (Below w.heap.size w w33) := ⟨by rw [← hq_]; exact (bl2_ HB.out GE332.out GE345.out)⟩; clear HO337 HO340 HO344 HO348 BK332 BK345 HB hq_; have HO337 := n0_; have HO340 := n1_; have HO344 := n2_; have HO348 := n3_; have BK332 := n4_; have BK345 := n5_; have HB := n6_; clear n0_ n1_ n2_ n3_ n4_ n5_ n6_))
    have n0_ := Aside0.mk (Kd.R_drew HO337.out)
    have n1_ := Aside0.mk (Kd.R_drew HO340.out)
    have n2_ := Aside0.mk (Kd.R_drew HO344.out)
    have n3_ := Aside0.mk (Kd.R_drew HO348.out)
    have n4_ := Aside0.mk (blk_drew BK332.out)
    have n5_ := Aside0.mk (blk_drew BK345.out)
    have n6_ := Aside0.mk (below_drew1 HB.out)
    clear HO337
    clear HO340
    clear HO344
    clear HO348
    clear BK332
    clear BK345
    clear HB
    have HO337 := n0_
    have HO340 := n1_
    have HO344 := n2_
    have HO348 := n3_
    have BK332 := n4_
    have BK345 := n5_
    have HB := n6_
    clear n0_ n1_ n2_ n3_ n4_ n5_ n6_
    refine start_ (n := 5) (S := fun w' => w'.cell? ⟨gb345, 0, none⟩ = some (.int .i64 t341) ∧ w'.cell? ⟨gb345, 1, none⟩ = some (.slice Ao32 t342.length co32) ∧ w'.cell? ⟨gb332, 0, none⟩ = some (.int .i64 a0_0) ∧ w'.cell? ⟨gb332, 1, none⟩ = some (.slice A0_1 l0_1.length c0_1)) (ds := []) #[false, false, false, false, false] (by kernel_rfl) rfl rfl ⟨(blk_cell BK345.out 0).trans rfl, (blk_cell BK345.out 1).trans rfl, (blk_cell BK332.out 0).trans rfl, (blk_cell BK332.out 1).trans rfl⟩ (fun hHeld => ?_)
    generalize w33.drew = w36 at HO337 HO340 HO344 HO348 BK332 BK345 HB hHeld ⊢
    refine take_ (i := 0) (N := some 35) (v := ?_) (a' := ?_) #[true, false, false, false, false] rfl rfl (by kernel_rfl) (fun _ _ _ h => h) (Or.inl ⟨by rfl, ?_⟩) hHeld ?_ ?_
    rotate_left
    ·rintro w' ⟨s0, s1, s2, s3⟩
     go_simp
     with_reducible rfl
    rotate_left
    ·simp only [Act.put, List.setIfInBounds_toArray, List.set_cons_zero, List.set_cons_succ, i64_w, i32_w]
     rfl
    refine take_ (i := 1) (N := some 36) (v := ?_) (a' := ?_) #[true, true, false, false, false] rfl rfl (by kernel_rfl) (fun _ _ _ h => h) (Or.inl ⟨by rfl, ?_⟩) hHeld ?_ ?_
    rotate_left
    ·rintro w' ⟨s0, s1, s2, s3⟩
     go_simp
     with_reducible rfl
    rotate_left
    ·simp only [Act.put, List.setIfInBounds_toArray, List.set_cons_zero, List.set_cons_succ, i64_w, i32_w]
     rfl
    refine one_ (i := 2) (N := some 37) #[true, true, true, false, false] rfl rfl (by kernel_rfl) (by decide) (fun K hK => ?_)
    refine goes_ Try.func16 (by kernel_rfl) rfl #[.agg #[.int .i64 a0_0, .slice A0_1 l0_1.length c0_1]] (by rfl) rfl rfl mp_ ?_
    with_reducible refine (laws_toTree.calls k a0_0 _ _ l0_1 t350 t351 _ ?side1 ?side2 A15.out).mono ?_
    (case side1 => repeat (first | exact (Kd.C_below HR0_1.out HB.out) | (with_reducible refine Kd.C_alloc ?_ _) | (with_reducible refine Kd.C_drewN ?_ _) | (with_reducible refine Kd.C_drew ?_)))
    (case side2 => exact HC0_1.out)
    rintro e w37 ⟨v352, rfl, ho0, hb⟩
    refine ⟨_, rfl, ?_⟩
    have n0_ := Aside0.mk (Kd.R_elder' (ra_ HO337.out) (Kd.R_base ho0) hb)
    have n1_ := Aside0.mk (Kd.R_below (ra_ HO340.out) hb)
    have n2_ := Aside0.mk (Kd.R_elder' (ra_ HO344.out) (Kd.R_base ho0) hb)
    have n3_ := Aside0.mk (Kd.R_below (ra_ HO348.out) hb)
    have n4_ := Aside0.mk (Kd.R_lower (Kd.R_new' (Kd.R_new' ho0 (Kd.R_lt (ra_ HO337.out))) (Kd.R_lt (ra_ HO344.out))) (below_size (bl2_ HB.out GE332.out GE345.out)))
    have n5_ := Aside0.mk (blk_below (g := gb332) (o := .cells #[.int .i64 a0_0, .slice A0_1 l0_1.length c0_1] 24 (0, 0)) (bk_ BK332.out) hb)
    have n6_ := Aside0.mk (blk_below (g := gb345) (o := .cells #[.int .i64 t341, .slice Ao32 t342.length co32] 29 (0, 0)) (bk_ BK345.out) hb)
    have n7_ := Aside0.mk (below_step (bl2_ HB.out GE332.out GE345.out) hb)
    clear HO337
    clear HO340
    clear HO344
    clear HO348
    clear BK332
    clear BK345
    clear HB
    have HO337 := n0_
    have HO340 := n1_
    have HO344 := n2_
    have HO348 := n3_
    have HO353 := n4_
    have BK332 := n5_
    have BK345 := n6_
    have HB := n7_
    clear n0_ n1_ n2_ n3_ n4_ n5_ n6_ n7_
    (try clear hb)
    (try clear hb2)
    (try clear hk)
    (try clear hi)
    (try clear ho0)
    obtain ⟨Ao38, co38, eo38⟩ := Kd.R_slice HO353.out
    (first | subst eo38 | (injection eo38 with f1_ f2_ f3_; have f4_ := f1_.symm; have f5_ := f3_.symm; clear f1_ f2_ f3_; subst f4_; subst f5_))
    refine hK.out _ _ ⟨(blk_cell BK345.out 0).trans rfl, (blk_cell BK345.out 1).trans rfl, (blk_cell BK332.out 0).trans rfl, (blk_cell BK332.out 1).trans rfl⟩ (fun hHeld => ?_)
    clear hK K
    refine norm_ (a' := ?_) ?_ ?_
    rotate_left
    ·show Act.put _ (some 37) _ = _
     simp only [Act.put, List.setIfInBounds_toArray, List.set_cons_zero, List.set_cons_succ, i64_w, i32_w]
     rfl
    refine one_ (i := 3) (N := some 38) #[true, true, true, true, false] rfl rfl (by kernel_rfl) (by decide) (fun K hK => ?_)
    refine goes_ Try.func18 (by kernel_rfl) rfl #[.agg #[.int .i64 t341, .slice Ao32 t342.length co32], .agg #[.int .i64 t350, .slice Ao38 t351.length co38]] (by rfl) rfl rfl mp_ ?_
    with_reducible refine (laws_eqTree.calls k t341 _ _ t342 t350 _ _ t351 true _ ?side1 ?side2 ?side3 ?side4 A16.out).mono ?_
    (case side1 => repeat (first | exact (Kd.R_reads' HO344.out).2.2 | (with_reducible refine Kd.C_alloc ?_ _) | (with_reducible refine Kd.C_drewN ?_ _) | (with_reducible refine Kd.C_drew ?_)))
    (case side2 => exact (Kd.R_reads' HO344.out).2.1)
    (case side3 => repeat (first | exact (Kd.R_reads' HO353.out).2.2 | (with_reducible refine Kd.C_alloc ?_ _) | (with_reducible refine Kd.C_drewN ?_ _) | (with_reducible refine Kd.C_drew ?_)))
    (case side4 => exact (Kd.R_reads' HO353.out).2.1)
    rintro e w39 ⟨rfl, hb⟩
    refine ⟨_, rfl, ?_⟩
    have n0_ := Aside0.mk (Kd.R_below (ra_ HO337.out) hb)
    have n1_ := Aside0.mk (Kd.R_below (ra_ HO340.out) hb)
    have n2_ := Aside0.mk (Kd.R_below (ra_ HO344.out) hb)
    have n3_ := Aside0.mk (Kd.R_below (ra_ HO348.out) hb)
    have n4_ := Aside0.mk (Kd.R_below (ra_ HO353.out) hb)
    have n5_ := Aside0.mk (blk_below (g := gb332) (o := .cells #[.int .i64 a0_0, .slice A0_1 l0_1.length c0_1] 24 (0, 0)) (bk_ BK332.out) hb)
    have n6_ := Aside0.mk (blk_below (g := gb345) (o := .cells #[.int .i64 t341, .slice Ao32 t342.length co32] 29 (0, 0)) (bk_ BK345.out) hb)
    have n7_ := Aside0.mk (below_step (bl2_ HB.out GE332.out GE345.out) hb)
    clear HO337
    clear HO340
    clear HO344
    clear HO348
    clear HO353
    clear BK332
    clear BK345
    clear HB
    have HO337 := n0_
    have HO340 := n1_
    have HO344 := n2_
    have HO348 := n3_
    have HO353 := n4_
    have BK332 := n5_
    have BK345 := n6_
    have HB := n7_
    clear n0_ n1_ n2_ n3_ n4_ n5_ n6_ n7_
    (try clear hb)
    (try clear hb2)
    (try clear hk)
    (try clear hi)
    refine hK.out _ _ ⟨(blk_cell BK345.out 0).trans rfl, (blk_cell BK345.out 1).trans rfl, (blk_cell BK332.out 0).trans rfl, (blk_cell BK332.out 1).trans rfl⟩ (fun hHeld => ?_)
    clear hK K
    refine norm_ (a' := ?_) ?_ ?_
    rotate_left
    ·show Act.put _ (some 38) _ = _
     simp only [Act.put, List.setIfInBounds_toArray, List.set_cons_zero, List.set_cons_succ, i64_w, i32_w]
     rfl
    refine pure_ (i := 4) (N := some 39) (v := ?_) (a' := ?_) #[true, true, true, true, true] rfl rfl (by kernel_rfl) (fun _ _ _ h => h) (Or.inl ⟨by rfl, ?_⟩) ?_ ?_
    rotate_left
    ·intro w'
     go_simp
     with_reducible rfl
    rotate_left
    ·simp only [Act.put, List.setIfInBounds_toArray, List.set_cons_zero, List.set_cons_succ, i64_w, i32_w]
     rfl
    refine done_ (by kernel_rfl) ?_
    have hcz40_0 : w39.cell? ⟨gb345, 0, none⟩ = some (.int .i64 t341) := (blk_cell BK345.out 0).trans rfl
    have hcz40_1 : w39.cell? ⟨gb345, 1, none⟩ = some (.slice Ao32 t342.length co32) := (blk_cell BK345.out 1).trans rfl
    have hfz40_0 := blk_frozen BK345.out 0
    have hfz40_1 := blk_frozen BK345.out 1
    go_upto_region 14 with (first | ((with_reducible refine gate_callee (f := 26) rfl ?_); refine goesL_ (some 42) rfl rfl Try.func26 (by kernel_rfl) rfl #[.agg #[.int .i64 t341, .slice Ao32 t342.length co32], .int .i64 1] rfl mp_ ?_; (with_reducible refine (laws_markTree.calls k t341 (fun k_ => some k_ = (.slice Ao32 t342.length co32 : Value).ownBlock) (.slice Ao32 t342.length co32) t342 1 t355 t356 w _ ?side1 ?side2 A18.out).mono ?_); (case side1 => repeat (first | (with_reducible first | exact HB.out | apply below_alloc | apply pw_below_drewN | apply below_drew1 | refine below_set ?_ GE332.out | refine below_set ?_ GE345.out) | exact HB.out)); (case side2 => exact Kd.R_tight rfl HO344.out); rintro e w41 ⟨rfl, hy0, hb, hkp⟩; refine ⟨_, rfl, ?_⟩; have n0_ := Aside0.mk (blk_kept (bk_ BK332.out) hkp (fun hs_ => (fun e_ => (Kd.R_ne HO344.out BK332.out (by decide)) e_) hs_)); have n1_ := Aside0.mk (Kd.R_mono (ok' := fun k_ => some k_ ≠ (.slice Ao32 t342.length co32 : Value).ownBlock ∧ some k_ ≠ (.slice Ao38 t351.length co38 : Value).ownBlock) (Kd.R_keptB (HO337.out) hkp (fun k_ hk_ hs_ => (hk_.1.2) hs_)) (fun k_ hk_ => ⟨hk_.1.1.2, hk_.1.2⟩)); have n2_ := Aside0.mk (Kd.R_mono (ok' := fun k_ => some k_ ≠ (.slice Ao34 t346.length co34 : Value).ownBlock) (Kd.R_keptB ((Kd.R_apart' HO340.out (Kd.R_typed HO344.out) (by decide))) hkp (fun k_ hk_ hs_ => (hk_.2) hs_)) (fun k_ hk_ => hk_.1.1.2)); have n3_ := Aside0.mk (Kd.R_reok rfl hy0 (fun k_ e_ => HO344.out.1 k_ e_)); have n4_ := Aside0.mk (blk_kept (bk_ BK345.out) hkp (fun hs_ => (fun e_ => (Kd.R_ne HO344.out BK345.out (by decide)) e_) hs_)); have n5_ := Aside0.mk (Kd.R_mono (ok' := fun k_ => some k_ ≠ (.slice Ao35 t338.length co35 : Value).ownBlock) (Kd.R_keptB ((Kd.R_apart' HO348.out (Kd.R_typed HO344.out) (by decide))) hkp (fun k_ hk_ hs_ => (hk_.2) hs_)) (fun k_ hk_ => hk_.1.1.2)); have n6_ := Aside0.mk (Kd.R_mono (ok' := fun k_ => some k_ ≠ (.slice Ao25 t335.length co25 : Value).ownBlock ∧ some k_ ≠ (.slice Ao32 t342.length co32 : Value).ownBlock) (Kd.R_keptB (HO353.out) hkp (fun k_ hk_ hs_ => (hk_.2) hs_)) (fun k_ hk_ => ⟨hk_.1.1.2, hk_.1.2⟩)); have n7_ := Aside0.mk (hb); clear BK332; clear HO337; clear HO340; clear HO344; clear BK345; clear HO348; clear HO353; clear HB; have BK332 := n0_; have HO337 := n1_; have HO340 := n2_; have HO344 := n3_; have BK345 := n4_; have HO348 := n5_; have HO353 := n6_; have HB := n7_; clear n0_ n1_ n2_ n3_ n4_ n5_ n6_ n7_; (try clear hb); (try clear hkp); (try clear hy0)))
    (try simp only [Act.put, List.setIfInBounds_toArray, List.set_cons_zero, List.set_cons_succ])
    go_cut [50] (fun v50 wc => ∃ (kq : Nat) (x50_18 : Bool), v50 = .bool x50_18 ∧ Aside0 (laws_FnExactTreeWay.j0 kq a1 a2 t338 t346 x50_18 a0_0 l0_1 = some r) ∧ Aside0 (kq ≤ k) ∧ Aside0 (Kd.R (Kd.int .i64) 2 wc w.heap.size (fun k_ => some k_ ≠ ((.slice Ao34 t346.length co34) : Value).ownBlock) (.slice Ao35 t338.length co35) t338) ∧ Aside0 (Kd.R (Kd.int .i64) 2 wc w.heap.size (fun k_ => some k_ ≠ ((.slice Ao35 t338.length co35) : Value).ownBlock) (.slice Ao34 t346.length co34) t346) ∧ Aside0 (Kd.R k71 71 wc w.heap.size (fun _ => True) (.slice Ao32 t342.length co32) t356) ∧ Aside0 (wc.heap[gb332]? = some (.cells #[.int .i64 a0_0, (.slice A0_1 l0_1.length c0_1)] 24 (0, 0))) ∧ Aside0 (wc.heap[gb345]? = some (.cells #[.int .i64 t341, (.slice Ao32 t342.length co32)] 29 (0, 0))) ∧ Aside0 (Below w.heap.size w wc))
    case first =>
     have H := HC19.out
     clear HC19
     by_cases c42 : t355 < 0
     ·rw [if_pos c42] at H
      have c42b0 : decide (t355 < 0) = true := decide_eq_true c42
      clear c42
      (first | rw [c42b0] | (simp only [i64_w, i32_w]; rw [c42b0]) | skip)
      have H' := Aside0.mk H
      clear H
      go_wp2
      go_meet
      case rel => exact ⟨_, (true), (by first | rfl | (simp; done) | (simp [*]; done)), H', ⟨by first | omega | exact Nat.le_refl _⟩, ⟨by (with_reducible repeat (first | apply Kd.R_alloc | apply Kd.R_drewN | apply Kd.R_drew)); exact HO340.out⟩, ⟨by (with_reducible repeat (first | apply Kd.R_alloc | apply Kd.R_drewN | apply Kd.R_drew)); exact HO348.out⟩, ⟨by (with_reducible repeat (first | apply Kd.R_alloc | apply Kd.R_drewN | apply Kd.R_drew)); exact Kd.R_mono HO344.out (fun _ hk => trivial)⟩, ⟨by (with_reducible repeat (first | refine blk_drewN ?_ _ | refine blk_drew ?_ | refine blk_alloc ?_ _)); exact BK332.out⟩, ⟨by (with_reducible repeat (first | refine blk_drewN ?_ _ | refine blk_drew ?_ | refine blk_alloc ?_ _)); exact BK345.out⟩, ⟨by repeat (first | (with_reducible first | exact HB.out | apply below_alloc | apply pw_below_drewN | apply below_drew1 | refine below_set ?_ GE332.out | refine below_set ?_ GE345.out) | exact HB.out)⟩⟩
     ·rw [if_neg c42] at H
      have c42b0 : decide (t355 < 0) = false := decide_eq_false c42
      clear c42
      (first | rw [c42b0] | (simp only [i64_w, i32_w]; rw [c42b0]) | skip)
      replace H := Option.bind_eq_some_iff.mp H
      obtain ⟨t357, A430, H⟩ := H
      replace H : (laws_FnExactTreeWay.j0 k a1 a2 t338 t346 (!t357) a0_0 l0_1) = some r := H
      have A43 := Aside0.mk A430
      clear A430
      have H' := Aside0.mk H
      clear H
      go_wp2_with (first | (go_at_call 25; (with_reducible refine (laws_eqInt64S.calls k _ _ t346 _ _ t338 t357 _ ?side1 ?side2 ?side3 ?side4 A43.out).mono ?_); (case side1 => repeat (first | exact (Kd.R_reads' HO348.out).2.2 | (with_reducible refine Kd.C_alloc ?_ _) | (with_reducible refine Kd.C_drewN ?_ _) | (with_reducible refine Kd.C_drew ?_))); (case side2 => exact (Kd.R_reads' HO348.out).2.1); (case side3 => repeat (first | exact (Kd.R_reads' HO340.out).2.2 | (with_reducible refine Kd.C_alloc ?_ _) | (with_reducible refine Kd.C_drewN ?_ _) | (with_reducible refine Kd.C_drew ?_))); (case side4 => exact (Kd.R_reads' HO340.out).2.1); rintro e w' ⟨rfl, ⟨nd, rfl⟩⟩))
      go_meet
      case rel => exact ⟨_, (!t357), (by first | rfl | (simp; done) | (simp [*]; done)), H', ⟨by first | omega | exact Nat.le_refl _⟩, ⟨by (with_reducible repeat (first | apply Kd.R_alloc | apply Kd.R_drewN | apply Kd.R_drew)); exact HO340.out⟩, ⟨by (with_reducible repeat (first | apply Kd.R_alloc | apply Kd.R_drewN | apply Kd.R_drew)); exact HO348.out⟩, ⟨by (with_reducible repeat (first | apply Kd.R_alloc | apply Kd.R_drewN | apply Kd.R_drew)); exact Kd.R_mono HO344.out (fun _ hk => trivial)⟩, ⟨by (with_reducible repeat (first | refine blk_drewN ?_ _ | refine blk_drew ?_ | refine blk_alloc ?_ _)); exact BK332.out⟩, ⟨by (with_reducible repeat (first | refine blk_drewN ?_ _ | refine blk_drew ?_ | refine blk_alloc ?_ _)); exact BK345.out⟩, ⟨by repeat (first | (with_reducible first | exact HB.out | apply below_alloc | apply pw_below_drewN | apply below_drew1 | refine below_set ?_ GE332.out | refine below_set ?_ GE345.out) | exact HB.out)⟩⟩
    case rest =>
     clear HC19
     try clear c1
     try clear c2
     try clear p2
     try clear c3
     try clear c4
     try clear c5
     try clear c5b0
     try clear c6
     try clear c14
     try clear c16
     try clear c17
     try clear c18
     try clear c23
     try clear c24
     try clear c25
     try clear c26
     try clear c30
     try clear c42
     try clear c42b0
     try clear hcz21_0
     try clear hcz21_1
     try clear hcz23_0
     try clear hcz23_1
     try clear hcz27_0
     try clear hcz27_1
     try clear hcz31_0
     try clear hcz31_1
     try clear hcz40_0
     try clear hcz40_1
     try clear hcz7_0
     try clear hcz7_1
     try clear hfz21_0
     try clear hfz21_1
     try clear hfz23_0
     try clear hfz23_1
     try clear hfz27_0
     try clear hfz27_1
     try clear hfz31_0
     try clear hfz31_1
     try clear hfz40_0
     try clear hfz40_1
     try clear hfz7_0
     try clear hfz7_1
     obtain ⟨kq, x50_18, rfl, HA, HJ18, HO_8, HO_10, HO_346001, BK332, BK345, HB⟩ := hcut
     have hl346001_18 := (Kd.R_reads' HO_346001.out).1
     rw [hl346001_18] at HO_346001
     (try simp only [hl346001_18])
     (try simp only [hl346001_18] at BK332)
     (try simp only [hl346001_18] at BK345)
     (try simp only [hl346001_18] at HO_8)
     (try simp only [hl346001_18] at HO_10)
     cases kq with
     | zero => exact absurd HA.out (by simp [laws_FnExactTreeWay.j0])
     | succ kj18 =>
      have H := HA.out
      clear HA
      simp only [laws_FnExactTreeWay.j0] at H
      by_cases c44 : x50_18 = true
      ·subst c44
       have H1 : (some false) = some r := by rw [if_pos rfl] at H; exact H
       clear H
       have H := H1
       clear H1
       obtain rfl := Option.some.inj H
       go_wp2
       go_ret
       exact ⟨by first | rfl | (simp [errW_none, errW_some] <;> rfl) | (simp [*, errW_none, errW_some] <;> rfl), by repeat (first | (with_reducible first | exact HB.out | apply below_alloc | apply pw_below_drewN | apply below_drew1 | refine below_set ?_ GE332.out | refine below_set ?_ GE345.out) | exact HB.out)⟩
      ·replace c44 := Bool.eq_false_iff.mpr c44
       subst c44
       have H1 : ((laws_markInt64S.f kj18 t346 1).bind fun bt358 => ((laws_heldInt64S.f kj18 bt358.2 1).bind fun t360 => (if t360 < 0 then (some false) else (if t360 = bt358.1 then ((laws_toTree.f kj18 a0_0 l0_1).bind fun bt361 => ((impl_TreeWay.f kj18 bt361.1 bt361.2 a1 a2).bind fun t365 => ((laws_eqInt64S.f kj18 t365 t338).bind fun t368 => (if t368 = true then ((laws_heldInt64S.f kj18 bt358.2 1).bind fun t369 => (if t369 < 0 then (some false) else (if t369 = bt358.1 then (some true) else (some false)))) else (some false))))) else (some false))))) = some r := by rw [if_neg (show ¬ (false = true) by decide)] at H; exact H
       clear H
       have H := H1
       clear H1
       replace H := Option.bind_eq_some_iff.mp H
       obtain ⟨⟨t358, t359⟩, A450, H⟩ := H
       replace H : ((laws_heldInt64S.f kj18 t359 1).bind fun t360 => (if t360 < 0 then (some false) else (if t360 = t358 then ((laws_toTree.f kj18 a0_0 l0_1).bind fun bt361 => ((impl_TreeWay.f kj18 bt361.1 bt361.2 a1 a2).bind fun t365 => ((laws_eqInt64S.f kj18 t365 t338).bind fun t368 => (if t368 = true then ((laws_heldInt64S.f kj18 t359 1).bind fun t369 => (if t369 < 0 then (some false) else (if t369 = t358 then (some true) else (some false)))) else (some false))))) else (some false)))) = some r := H
       have A45 := Aside0.mk A450
       clear A450
       replace H := Option.bind_eq_some_iff.mp H
       obtain ⟨t360, A460, H⟩ := H
       replace H : (if t360 < 0 then (some false) else (if t360 = t358 then ((laws_toTree.f kj18 a0_0 l0_1).bind fun bt361 => ((impl_TreeWay.f kj18 bt361.1 bt361.2 a1 a2).bind fun t365 => ((laws_eqInt64S.f kj18 t365 t338).bind fun t368 => (if t368 = true then ((laws_heldInt64S.f kj18 t359 1).bind fun t369 => (if t369 < 0 then (some false) else (if t369 = t358 then (some true) else (some false)))) else (some false))))) else (some false))) = some r := H
       have A46 := Aside0.mk A460
       clear A460
       by_cases c47 : t360 < 0
       ·rw [if_pos c47] at H
        have c47b0 : decide (t360 < 0) = true := decide_eq_true c47
        clear c47
        obtain rfl := Option.some.inj H
        go_wp2_with (first | ((with_reducible refine gate_callee (f := 27) rfl ?_); refine goesL_ (some 53) rfl rfl Try.func27 (by kernel_rfl) rfl #[.slice Ao34 t346.length co34, .int .i64 1] rfl mp_ ?_; (with_reducible refine (laws_markInt64S.calls kj18 (fun k_ => some k_ = (.slice Ao34 t346.length co34 : Value).ownBlock) (.slice Ao34 t346.length co34) t346 1 t358 t359 w _ ?side1 ?side2 A45.out).mono ?_); (case side1 => repeat (first | (with_reducible first | exact HB.out | apply below_alloc | apply pw_below_drewN | apply below_drew1 | refine below_set ?_ GE332.out | refine below_set ?_ GE345.out) | exact HB.out)); (case side2 => exact Kd.R_tight rfl HO_10.out); rintro e w48 ⟨rfl, hy0, hb, hkp⟩; refine ⟨_, rfl, ?_⟩; have n0_ := Aside0.mk (Kd.R_mono (ok' := fun k_ => some k_ ≠ (.slice Ao34 t346.length co34 : Value).ownBlock) (Kd.R_keptB (HO_8.out) hkp (fun k_ hk_ hs_ => (hk_) hs_)) (fun k_ hk_ => hk_.1)); have n1_ := Aside0.mk (Kd.R_reok rfl hy0 (fun k_ e_ => HO_10.out.1 k_ e_)); have n2_ := Aside0.mk (Kd.R_mono (ok' := fun k_ => True) (Kd.R_keptB ((Kd.R_apart' HO_346001.out (Kd.R_typed HO_10.out) (by decide))) hkp (fun k_ hk_ hs_ => (hk_.2) hs_)) (fun k_ hk_ => trivial)); have n3_ := Aside0.mk (blk_kept (bk_ BK332.out) hkp (fun hs_ => (fun e_ => (Kd.R_ne HO_10.out BK332.out (by decide)) e_) hs_)); have n4_ := Aside0.mk (blk_kept (bk_ BK345.out) hkp (fun hs_ => (fun e_ => (Kd.R_ne HO_10.out BK345.out (by decide)) e_) hs_)); have n5_ := Aside0.mk (hb); clear HO_8; clear HO_10; clear HO_346001; clear BK332; clear BK345; clear HB; have HO_8 := n0_; have HO_10 := n1_; have HO_346001 := n2_; have BK332 := n3_; have BK345 := n4_; have HB := n5_; clear n0_ n1_ n2_ n3_ n4_ n5_; (try clear hb); (try clear hkp); (try clear hy0)) | ((with_reducible refine gate_callee (f := 28) rfl ?_); refine goesL_ (some 56) rfl rfl Try.func28 (by kernel_rfl) rfl #[.slice Ao34 t359.length co34, .int .i64 1] rfl (by (try simp only [List.map_toArray, List.map_cons, List.map_nil]); first | done | (rw [show t359.length = t346.length from (Kd.R_reads' HO_10.out).1.symm] <;> rfl) | rfl | (simp only [List.length_drop, List.length_take]; rfl)) ?_; (with_reducible refine (laws_heldInt64S.calls kj18 _ _ t359 1 t360 _ ?side1 ?side2 A46.out).mono ?_); (case side1 => repeat (first | exact (Kd.R_reads' HO_10.out).2.2 | (with_reducible refine Kd.C_alloc ?_ _) | (with_reducible refine Kd.C_drewN ?_ _) | (with_reducible refine Kd.C_drew ?_))); (case side2 => rw [show t359.length = t346.length from (Kd.R_reads' HO_10.out).1.symm]; exact (Kd.R_reads' HO_10.out).2.1); rintro e w' ⟨rfl, ⟨nd, rfl⟩⟩; refine ⟨_, rfl, ?_⟩))
        go_ret
        exact ⟨by first | rfl | (simp [errW_none, errW_some] <;> rfl) | (simp [*, errW_none, errW_some] <;> rfl), by repeat (first | (with_reducible first | exact HB.out | apply below_alloc | apply pw_below_drewN | apply below_drew1 | refine below_set ?_ GE332.out | refine below_set ?_ GE345.out) | exact HB.out)⟩
       ·rw [if_neg c47] at H
        have c47b0 : decide (t360 < 0) = false := decide_eq_false c47
        clear c47
        by_cases c49 : t360 = t358
        ·rw [if_pos c49] at H
         have c49b0 : (t360 == t358) = true := beq_iff_eq.mpr c49
         have c49b1 : (t360 != t358) = false := bne_eq_false_iff_eq.mpr c49
         clear c49
         replace H := Option.bind_eq_some_iff.mp H
         obtain ⟨⟨t361, t362⟩, A500, H⟩ := H
         replace H : ((impl_TreeWay.f kj18 t361 t362 a1 a2).bind fun t365 => ((laws_eqInt64S.f kj18 t365 t338).bind fun t368 => (if t368 = true then ((laws_heldInt64S.f kj18 t359 1).bind fun t369 => (if t369 < 0 then (some false) else (if t369 = t358 then (some true) else (some false)))) else (some false)))) = some r := H
         have A50 := Aside0.mk A500
         clear A500
         replace H := Option.bind_eq_some_iff.mp H
         obtain ⟨t365, A510, H⟩ := H
         replace H : ((laws_eqInt64S.f kj18 t365 t338).bind fun t368 => (if t368 = true then ((laws_heldInt64S.f kj18 t359 1).bind fun t369 => (if t369 < 0 then (some false) else (if t369 = t358 then (some true) else (some false)))) else (some false))) = some r := H
         have A51 := Aside0.mk A510
         clear A510
         replace H := Option.bind_eq_some_iff.mp H
         obtain ⟨t368, A520, H⟩ := H
         replace H : (if t368 = true then ((laws_heldInt64S.f kj18 t359 1).bind fun t369 => (if t369 < 0 then (some false) else (if t369 = t358 then (some true) else (some false)))) else (some false)) = some r := H
         have A52 := Aside0.mk A520
         clear A520
         by_cases c53 : t368 = true
         ·subst c53
          have H1 : ((laws_heldInt64S.f kj18 t359 1).bind fun t369 => (if t369 < 0 then (some false) else (if t369 = t358 then (some true) else (some false)))) = some r := by rw [if_pos rfl] at H; exact H
          clear H
          have H := H1
          clear H1
          replace H := Option.bind_eq_some_iff.mp H
          obtain ⟨t369, A540, H⟩ := H
          replace H : (if t369 < 0 then (some false) else (if t369 = t358 then (some true) else (some false))) = some r := H
          have A54 := Aside0.mk A540
          clear A540
          by_cases c55 : t369 < 0
          ·rw [if_pos c55] at H
           have c55b0 : decide (t369 < 0) = true := decide_eq_true c55
           clear c55
           obtain rfl := Option.some.inj H
           go_wp2_with (first | ((with_reducible refine gate_callee (f := 27) rfl ?_); refine goesL_ (some 53) rfl rfl Try.func27 (by kernel_rfl) rfl #[.slice Ao34 t346.length co34, .int .i64 1] rfl mp_ ?_; (with_reducible refine (laws_markInt64S.calls kj18 (fun k_ => some k_ = (.slice Ao34 t346.length co34 : Value).ownBlock) (.slice Ao34 t346.length co34) t346 1 t358 t359 w _ ?side1 ?side2 A45.out).mono ?_); (case side1 => repeat (first | (with_reducible first | exact HB.out | apply below_alloc | apply pw_below_drewN | apply below_drew1 | refine below_set ?_ GE332.out | refine below_set ?_ GE345.out) | exact HB.out)); (case side2 => exact Kd.R_tight rfl HO_10.out); rintro e w56 ⟨rfl, hy0, hb, hkp⟩; refine ⟨_, rfl, ?_⟩; have n0_ := Aside0.mk (Kd.R_mono (ok' := fun k_ => some k_ ≠ (.slice Ao34 t346.length co34 : Value).ownBlock) (Kd.R_keptB (HO_8.out) hkp (fun k_ hk_ hs_ => (hk_) hs_)) (fun k_ hk_ => hk_.1)); have n1_ := Aside0.mk (Kd.R_reok rfl hy0 (fun k_ e_ => HO_10.out.1 k_ e_)); have n2_ := Aside0.mk (Kd.R_mono (ok' := fun k_ => True) (Kd.R_keptB ((Kd.R_apart' HO_346001.out (Kd.R_typed HO_10.out) (by decide))) hkp (fun k_ hk_ hs_ => (hk_.2) hs_)) (fun k_ hk_ => trivial)); have n3_ := Aside0.mk (blk_kept (bk_ BK332.out) hkp (fun hs_ => (fun e_ => (Kd.R_ne HO_10.out BK332.out (by decide)) e_) hs_)); have n4_ := Aside0.mk (blk_kept (bk_ BK345.out) hkp (fun hs_ => (fun e_ => (Kd.R_ne HO_10.out BK345.out (by decide)) e_) hs_)); have n5_ := Aside0.mk (hb); clear HO_8; clear HO_10; clear HO_346001; clear BK332; clear BK345; clear HB; have HO_8 := n0_; have HO_10 := n1_; have HO_346001 := n2_; have BK332 := n3_; have BK345 := n4_; have HB := n5_; clear n0_ n1_ n2_ n3_ n4_ n5_; (try clear hb); (try clear hkp); (try clear hy0)) | ((with_reducible refine gate_callee (f := 28) rfl ?_); refine goesL_ (some 56) rfl rfl Try.func28 (by kernel_rfl) rfl #[.slice Ao34 t359.length co34, .int .i64 1] rfl (by (try simp only [List.map_toArray, List.map_cons, List.map_nil]); first | done | (rw [show t359.length = t346.length from (Kd.R_reads' HO_10.out).1.symm] <;> rfl) | rfl | (simp only [List.length_drop, List.length_take]; rfl)) ?_; (with_reducible refine (laws_heldInt64S.calls kj18 _ _ t359 1 t360 _ ?side1 ?side2 A46.out).mono ?_); (case side1 => repeat (first | exact (Kd.R_reads' HO_10.out).2.2 | (with_reducible refine Kd.C_alloc ?_ _) | (with_reducible refine Kd.C_drewN ?_ _) | (with_reducible refine Kd.C_drew ?_))); (case side2 => rw [show t359.length = t346.length from (Kd.R_reads' HO_10.out).1.symm]; exact (Kd.R_reads' HO_10.out).2.1); rintro e w' ⟨rfl, ⟨nd, rfl⟩⟩; refine ⟨_, rfl, ?_⟩; have hnb57 := NB332_345.out; have hnc57 := NB345_332.out; have hcz58_0 : w56.cell? ⟨gb332, 0, none⟩ = some (.int .i64 a0_0) := (blk_cell BK332.out 0).trans rfl; have hcz58_1 : w56.cell? ⟨gb332, 1, none⟩ = some (.slice A0_1 l0_1.length c0_1) := (blk_cell BK332.out 1).trans rfl; have hfz58_0 := blk_frozen BK332.out 0; have hfz58_1 := blk_frozen BK332.out 1) | ((with_reducible refine gate_callee (f := 16) rfl ?_); refine goesL_ (some 63) rfl rfl Try.func16 (by kernel_rfl) rfl #[.agg #[.int .i64 a0_0, .slice A0_1 l0_1.length c0_1]] rfl mp_ ?_; (with_reducible refine (laws_toTree.calls kj18 a0_0 _ _ l0_1 t361 t362 _ ?side1 ?side2 A50.out).mono ?_); (case side1 => repeat (first | exact (Kd.C_below HR0_1.out (bl2_ HB.out GE332.out GE345.out)) | (with_reducible refine Kd.C_alloc ?_ _) | (with_reducible refine Kd.C_drewN ?_ _) | (with_reducible refine Kd.C_drew ?_))); (case side2 => exact HC0_1.out); rintro e w59 ⟨v363, rfl, ho0, hb⟩; refine ⟨_, rfl, ?_⟩; have n0_ := Aside0.mk (Kd.R_below (ra_ HO_8.out) hb); have n1_ := Aside0.mk (Kd.R_below (ra_ HO_10.out) hb); have n2_ := Aside0.mk (Kd.R_elder' (ra_ HO_346001.out) (Kd.R_base ho0) hb); have n3_ := Aside0.mk (Kd.R_lower (Kd.R_new' ho0 (Kd.R_lt (ra_ HO_346001.out))) (below_size (bl2_ HB.out GE332.out GE345.out))); have n4_ := Aside0.mk (blk_below (g := gb332) (o := .cells #[.int .i64 a0_0, .slice A0_1 l0_1.length c0_1] 24 (0, 0)) (bk_ BK332.out) hb); have n5_ := Aside0.mk (blk_below (g := gb345) (o := .cells #[.int .i64 t341, .slice Ao32 t356.length co32] 29 (0, 0)) (bk_ BK345.out) hb); have n6_ := Aside0.mk (below_step (bl2_ HB.out GE332.out GE345.out) hb); clear HO_8; clear HO_10; clear HO_346001; clear BK332; clear BK345; clear HB; have HO_8 := n0_; have HO_10 := n1_; have HO_346001 := n2_; have HO364 := n3_; have BK332 := n4_; have BK345 := n5_; have HB := n6_; clear n0_ n1_ n2_ n3_ n4_ n5_ n6_; (try clear hb); (try clear hb2); (try clear hk); (try clear hi); (try clear ho0); obtain ⟨Ao60, co60, eo60⟩ := Kd.R_slice HO364.out; subst eo60) | ((with_reducible refine gate_callee (f := 24) rfl ?_); refine goesL_ (some 66) rfl rfl Try.func24 (by kernel_rfl) rfl #[.agg #[.int .i64 t361, .slice Ao60 t362.length co60], .int .i64 a1, .int .i64 a2] rfl mp_ ?_; (with_reducible refine (impl_TreeWay.calls kj18 t361 _ _ t362 a1 a2 t365 _ ?side1 ?side2 A51.out).mono ?_); (case side1 => repeat (first | exact (Kd.R_reads' HO364.out).2.2 | (with_reducible refine Kd.C_alloc ?_ _) | (with_reducible refine Kd.C_drewN ?_ _) | (with_reducible refine Kd.C_drew ?_))); (case side2 => exact (Kd.R_reads' HO364.out).2.1); rintro e w61 ⟨v366, rfl, ho0, hb⟩; refine ⟨_, rfl, ?_⟩; have n0_ := Aside0.mk (Kd.R_elder' (ra_ HO_8.out) (Kd.R_base ho0) hb); have n1_ := Aside0.mk (Kd.R_elder' (ra_ HO_10.out) (Kd.R_base ho0) hb); have n2_ := Aside0.mk (Kd.R_below (ra_ HO_346001.out) hb); have n3_ := Aside0.mk (Kd.R_below (ra_ HO364.out) hb); have n4_ := Aside0.mk (Kd.R_lower (Kd.R_new' (Kd.R_new' ho0 (Kd.R_lt (ra_ HO_8.out))) (Kd.R_lt (ra_ HO_10.out))) (below_size (bl2_ HB.out GE332.out GE345.out))); have n5_ := Aside0.mk (blk_below (g := gb332) (o := .cells #[.int .i64 a0_0, .slice A0_1 l0_1.length c0_1] 24 (0, 0)) (bk_ BK332.out) hb); have n6_ := Aside0.mk (blk_below (g := gb345) (o := .cells #[.int .i64 t341, .slice Ao32 t356.length co32] 29 (0, 0)) (bk_ BK345.out) hb); have n7_ := Aside0.mk (below_step (bl2_ HB.out GE332.out GE345.out) hb); clear HO_8; clear HO_10; clear HO_346001; clear HO364; clear BK332; clear BK345; clear HB; have HO_8 := n0_; have HO_10 := n1_; have HO_346001 := n2_; have HO364 := n3_; have HO367 := n4_; have BK332 := n5_; have BK345 := n6_; have HB := n7_; clear n0_ n1_ n2_ n3_ n4_ n5_ n6_ n7_; (try clear hb); (try clear hb2); (try clear hk); (try clear hi); (try clear ho0); obtain ⟨Ao62, co62, eo62⟩ := Kd.R_slice HO367.out; subst eo62) | ((with_reducible refine gate_callee (f := 25) rfl ?_); refine goesL_ (some 69) rfl rfl Try.func25 (by kernel_rfl) rfl #[.slice Ao62 t365.length co62, .slice Ao35 t338.length co35] rfl mp_ ?_; (with_reducible refine (laws_eqInt64S.calls kj18 _ _ t365 _ _ t338 true _ ?side1 ?side2 ?side3 ?side4 A52.out).mono ?_); (case side1 => repeat (first | exact (Kd.R_reads' HO367.out).2.2 | (with_reducible refine Kd.C_alloc ?_ _) | (with_reducible refine Kd.C_drewN ?_ _) | (with_reducible refine Kd.C_drew ?_))); (case side2 => exact (Kd.R_reads' HO367.out).2.1); (case side3 => repeat (first | exact (Kd.R_reads' HO_8.out).2.2 | (with_reducible refine Kd.C_alloc ?_ _) | (with_reducible refine Kd.C_drewN ?_ _) | (with_reducible refine Kd.C_drew ?_))); (case side4 => exact (Kd.R_reads' HO_8.out).2.1); rintro e w' ⟨rfl, ⟨nd, rfl⟩⟩; refine ⟨_, rfl, ?_⟩) | ((with_reducible refine gate_callee (f := 28) rfl ?_); refine goesL_ (some 73) rfl rfl Try.func28 (by kernel_rfl) rfl #[.slice Ao34 t359.length co34, .int .i64 1] rfl (by (try simp only [List.map_toArray, List.map_cons, List.map_nil]); first | done | (rw [show t359.length = t346.length from (Kd.R_reads' HO_10.out).1.symm] <;> rfl) | rfl | (simp only [List.length_drop, List.length_take]; rfl)) ?_; (with_reducible refine (laws_heldInt64S.calls kj18 _ _ t359 1 t369 _ ?side1 ?side2 A54.out).mono ?_); (case side1 => repeat (first | exact (Kd.R_reads' HO_10.out).2.2 | (with_reducible refine Kd.C_alloc ?_ _) | (with_reducible refine Kd.C_drewN ?_ _) | (with_reducible refine Kd.C_drew ?_))); (case side2 => rw [show t359.length = t346.length from (Kd.R_reads' HO_10.out).1.symm]; exact (Kd.R_reads' HO_10.out).2.1); rintro e w' ⟨rfl, ⟨nd, rfl⟩⟩; refine ⟨_, rfl, ?_⟩))
           go_ret
           exact ⟨by first | rfl | (simp [errW_none, errW_some] <;> rfl) | (simp [*, errW_none, errW_some] <;> rfl), by repeat (first | (with_reducible first | exact HB.out | apply below_alloc | apply pw_below_drewN | apply below_drew1 | refine below_set ?_ GE332.out | refine below_set ?_ GE345.out) | exact HB.out)⟩
          ·rw [if_neg c55] at H
           have c55b0 : decide (t369 < 0) = false := decide_eq_false c55
           clear c55
           by_cases c63 : t369 = t358
           ·rw [if_pos c63] at H
            have c63b0 : (t369 == t358) = true := beq_iff_eq.mpr c63
            have c63b1 : (t369 != t358) = false := bne_eq_false_iff_eq.mpr c63
            clear c63
            obtain rfl := Option.some.inj H
            go_wp2_with (first | ((with_reducible refine gate_callee (f := 27) rfl ?_); refine goesL_ (some 53) rfl rfl Try.func27 (by kernel_rfl) rfl #[.slice Ao34 t346.length co34, .int .i64 1] rfl mp_ ?_; (with_reducible refine (laws_markInt64S.calls kj18 (fun k_ => some k_ = (.slice Ao34 t346.length co34 : Value).ownBlock) (.slice Ao34 t346.length co34) t346 1 t358 t359 w _ ?side1 ?side2 A45.out).mono ?_); (case side1 => repeat (first | (with_reducible first | exact HB.out | apply below_alloc | apply pw_below_drewN | apply below_drew1 | refine below_set ?_ GE332.out | refine below_set ?_ GE345.out) | exact HB.out)); (case side2 => exact Kd.R_tight rfl HO_10.out); rintro e w64 ⟨rfl, hy0, hb, hkp⟩; refine ⟨_, rfl, ?_⟩; have n0_ := Aside0.mk (Kd.R_mono (ok' := fun k_ => some k_ ≠ (.slice Ao34 t346.length co34 : Value).ownBlock) (Kd.R_keptB (HO_8.out) hkp (fun k_ hk_ hs_ => (hk_) hs_)) (fun k_ hk_ => hk_.1)); have n1_ := Aside0.mk (Kd.R_reok rfl hy0 (fun k_ e_ => HO_10.out.1 k_ e_)); have n2_ := Aside0.mk (Kd.R_mono (ok' := fun k_ => True) (Kd.R_keptB ((Kd.R_apart' HO_346001.out (Kd.R_typed HO_10.out) (by decide))) hkp (fun k_ hk_ hs_ => (hk_.2) hs_)) (fun k_ hk_ => trivial)); have n3_ := Aside0.mk (blk_kept (bk_ BK332.out) hkp (fun hs_ => (fun e_ => (Kd.R_ne HO_10.out BK332.out (by decide)) e_) hs_)); have n4_ := Aside0.mk (blk_kept (bk_ BK345.out) hkp (fun hs_ => (fun e_ => (Kd.R_ne HO_10.out BK345.out (by decide)) e_) hs_)); have n5_ := Aside0.mk (hb); clear HO_8; clear HO_10; clear HO_346001; clear BK332; clear BK345; clear HB; have HO_8 := n0_; have HO_10 := n1_; have HO_346001 := n2_; have BK332 := n3_; have BK345 := n4_; have HB := n5_; clear n0_ n1_ n2_ n3_ n4_ n5_; (try clear hb); (try clear hkp); (try clear hy0)) | ((with_reducible refine gate_callee (f := 28) rfl ?_); refine goesL_ (some 56) rfl rfl Try.func28 (by kernel_rfl) rfl #[.slice Ao34 t359.length co34, .int .i64 1] rfl (by (try simp only [List.map_toArray, List.map_cons, List.map_nil]); first | done | (rw [show t359.length = t346.length from (Kd.R_reads' HO_10.out).1.symm] <;> rfl) | rfl | (simp only [List.length_drop, List.length_take]; rfl)) ?_; (with_reducible refine (laws_heldInt64S.calls kj18 _ _ t359 1 t360 _ ?side1 ?side2 A46.out).mono ?_); (case side1 => repeat (first | exact (Kd.R_reads' HO_10.out).2.2 | (with_reducible refine Kd.C_alloc ?_ _) | (with_reducible refine Kd.C_drewN ?_ _) | (with_reducible refine Kd.C_drew ?_))); (case side2 => rw [show t359.length = t346.length from (Kd.R_reads' HO_10.out).1.symm]; exact (Kd.R_reads' HO_10.out).2.1); rintro e w' ⟨rfl, ⟨nd, rfl⟩⟩; refine ⟨_, rfl, ?_⟩; have hnb65 := NB332_345.out; have hnc65 := NB345_332.out; have hcz66_0 : w64.cell? ⟨gb332, 0, none⟩ = some (.int .i64 a0_0) := (blk_cell BK332.out 0).trans rfl; have hcz66_1 : w64.cell? ⟨gb332, 1, none⟩ = some (.slice A0_1 l0_1.length c0_1) := (blk_cell BK332.out 1).trans rfl; have hfz66_0 := blk_frozen BK332.out 0; have hfz66_1 := blk_frozen BK332.out 1) | ((with_reducible refine gate_callee (f := 16) rfl ?_); refine goesL_ (some 63) rfl rfl Try.func16 (by kernel_rfl) rfl #[.agg #[.int .i64 a0_0, .slice A0_1 l0_1.length c0_1]] rfl mp_ ?_; (with_reducible refine (laws_toTree.calls kj18 a0_0 _ _ l0_1 t361 t362 _ ?side1 ?side2 A50.out).mono ?_); (case side1 => repeat (first | exact (Kd.C_below HR0_1.out (bl2_ HB.out GE332.out GE345.out)) | (with_reducible refine Kd.C_alloc ?_ _) | (with_reducible refine Kd.C_drewN ?_ _) | (with_reducible refine Kd.C_drew ?_))); (case side2 => exact HC0_1.out); rintro e w67 ⟨v363, rfl, ho0, hb⟩; refine ⟨_, rfl, ?_⟩; have n0_ := Aside0.mk (Kd.R_below (ra_ HO_8.out) hb); have n1_ := Aside0.mk (Kd.R_below (ra_ HO_10.out) hb); have n2_ := Aside0.mk (Kd.R_elder' (ra_ HO_346001.out) (Kd.R_base ho0) hb); have n3_ := Aside0.mk (Kd.R_lower (Kd.R_new' ho0 (Kd.R_lt (ra_ HO_346001.out))) (below_size (bl2_ HB.out GE332.out GE345.out))); have n4_ := Aside0.mk (blk_below (g := gb332) (o := .cells #[.int .i64 a0_0, .slice A0_1 l0_1.length c0_1] 24 (0, 0)) (bk_ BK332.out) hb); have n5_ := Aside0.mk (blk_below (g := gb345) (o := .cells #[.int .i64 t341, .slice Ao32 t356.length co32] 29 (0, 0)) (bk_ BK345.out) hb); have n6_ := Aside0.mk (below_step (bl2_ HB.out GE332.out GE345.out) hb); clear HO_8; clear HO_10; clear HO_346001; clear BK332; clear BK345; clear HB; have HO_8 := n0_; have HO_10 := n1_; have HO_346001 := n2_; have HO364 := n3_; have BK332 := n4_; have BK345 := n5_; have HB := n6_; clear n0_ n1_ n2_ n3_ n4_ n5_ n6_; (try clear hb); (try clear hb2); (try clear hk); (try clear hi); (try clear ho0); obtain ⟨Ao68, co68, eo68⟩ := Kd.R_slice HO364.out; subst eo68) | ((with_reducible refine gate_callee (f := 24) rfl ?_); refine goesL_ (some 66) rfl rfl Try.func24 (by kernel_rfl) rfl #[.agg #[.int .i64 t361, .slice Ao68 t362.length co68], .int .i64 a1, .int .i64 a2] rfl mp_ ?_; (with_reducible refine (impl_TreeWay.calls kj18 t361 _ _ t362 a1 a2 t365 _ ?side1 ?side2 A51.out).mono ?_); (case side1 => repeat (first | exact (Kd.R_reads' HO364.out).2.2 | (with_reducible refine Kd.C_alloc ?_ _) | (with_reducible refine Kd.C_drewN ?_ _) | (with_reducible refine Kd.C_drew ?_))); (case side2 => exact (Kd.R_reads' HO364.out).2.1); rintro e w69 ⟨v366, rfl, ho0, hb⟩; refine ⟨_, rfl, ?_⟩; have n0_ := Aside0.mk (Kd.R_elder' (ra_ HO_8.out) (Kd.R_base ho0) hb); have n1_ := Aside0.mk (Kd.R_elder' (ra_ HO_10.out) (Kd.R_base ho0) hb); have n2_ := Aside0.mk (Kd.R_below (ra_ HO_346001.out) hb); have n3_ := Aside0.mk (Kd.R_below (ra_ HO364.out) hb); have n4_ := Aside0.mk (Kd.R_lower (Kd.R_new' (Kd.R_new' ho0 (Kd.R_lt (ra_ HO_8.out))) (Kd.R_lt (ra_ HO_10.out))) (below_size (bl2_ HB.out GE332.out GE345.out))); have n5_ := Aside0.mk (blk_below (g := gb332) (o := .cells #[.int .i64 a0_0, .slice A0_1 l0_1.length c0_1] 24 (0, 0)) (bk_ BK332.out) hb); have n6_ := Aside0.mk (blk_below (g := gb345) (o := .cells #[.int .i64 t341, .slice Ao32 t356.length co32] 29 (0, 0)) (bk_ BK345.out) hb); have n7_ := Aside0.mk (below_step (bl2_ HB.out GE332.out GE345.out) hb); clear HO_8; clear HO_10; clear HO_346001; clear HO364; clear BK332; clear BK345; clear HB; have HO_8 := n0_; have HO_10 := n1_; have HO_346001 := n2_; have HO364 := n3_; have HO367 := n4_; have BK332 := n5_; have BK345 := n6_; have HB := n7_; clear n0_ n1_ n2_ n3_ n4_ n5_ n6_ n7_; (try clear hb); (try clear hb2); (try clear hk); (try clear hi); (try clear ho0); obtain ⟨Ao70, co70, eo70⟩ := Kd.R_slice HO367.out; subst eo70) | ((with_reducible refine gate_callee (f := 25) rfl ?_); refine goesL_ (some 69) rfl rfl Try.func25 (by kernel_rfl) rfl #[.slice Ao70 t365.length co70, .slice Ao35 t338.length co35] rfl mp_ ?_; (with_reducible refine (laws_eqInt64S.calls kj18 _ _ t365 _ _ t338 true _ ?side1 ?side2 ?side3 ?side4 A52.out).mono ?_); (case side1 => repeat (first | exact (Kd.R_reads' HO367.out).2.2 | (with_reducible refine Kd.C_alloc ?_ _) | (with_reducible refine Kd.C_drewN ?_ _) | (with_reducible refine Kd.C_drew ?_))); (case side2 => exact (Kd.R_reads' HO367.out).2.1); (case side3 => repeat (first | exact (Kd.R_reads' HO_8.out).2.2 | (with_reducible refine Kd.C_alloc ?_ _) | (with_reducible refine Kd.C_drewN ?_ _) | (with_reducible refine Kd.C_drew ?_))); (case side4 => exact (Kd.R_reads' HO_8.out).2.1); rintro e w' ⟨rfl, ⟨nd, rfl⟩⟩; refine ⟨_, rfl, ?_⟩) | ((with_reducible refine gate_callee (f := 28) rfl ?_); refine goesL_ (some 73) rfl rfl Try.func28 (by kernel_rfl) rfl #[.slice Ao34 t359.length co34, .int .i64 1] rfl (by (try simp only [List.map_toArray, List.map_cons, List.map_nil]); first | done | (rw [show t359.length = t346.length from (Kd.R_reads' HO_10.out).1.symm] <;> rfl) | rfl | (simp only [List.length_drop, List.length_take]; rfl)) ?_; (with_reducible refine (laws_heldInt64S.calls kj18 _ _ t359 1 t369 _ ?side1 ?side2 A54.out).mono ?_); (case side1 => repeat (first | exact (Kd.R_reads' HO_10.out).2.2 | (with_reducible refine Kd.C_alloc ?_ _) | (with_reducible refine Kd.C_drewN ?_ _) | (with_reducible refine Kd.C_drew ?_))); (case side2 => rw [show t359.length = t346.length from (Kd.R_reads' HO_10.out).1.symm]; exact (Kd.R_reads' HO_10.out).2.1); rintro e w' ⟨rfl, ⟨nd, rfl⟩⟩; refine ⟨_, rfl, ?_⟩))
            go_ret
            exact ⟨by first | rfl | (simp [errW_none, errW_some] <;> rfl) | (simp [*, errW_none, errW_some] <;> rfl), by repeat (first | (with_reducible first | exact HB.out | apply below_alloc | apply pw_below_drewN | apply below_drew1 | refine below_set ?_ GE332.out | refine below_set ?_ GE345.out) | exact HB.out)⟩
           ·rw [if_neg c63] at H
            have c63b0 : (t369 == t358) = false := beq_eq_false_iff_ne.mpr c63
            have c63b1 : (t369 != t358) = true := bne_iff_ne.mpr c63
            obtain rfl := Option.some.inj H
            go_wp2_with (first | ((with_reducible refine gate_callee (f := 27) rfl ?_); refine goesL_ (some 53) rfl rfl Try.func27 (by kernel_rfl) rfl #[.slice Ao34 t346.length co34, .int .i64 1] rfl mp_ ?_; (with_reducible refine (laws_markInt64S.calls kj18 (fun k_ => some k_ = (.slice Ao34 t346.length co34 : Value).ownBlock) (.slice Ao34 t346.length co34) t346 1 t358 t359 w _ ?side1 ?side2 A45.out).mono ?_); (case side1 => repeat (first | (with_reducible first | exact HB.out | apply below_alloc | apply pw_below_drewN | apply below_drew1 | refine below_set ?_ GE332.out | refine below_set ?_ GE345.out) | exact HB.out)); (case side2 => exact Kd.R_tight rfl HO_10.out); rintro e w71 ⟨rfl, hy0, hb, hkp⟩; refine ⟨_, rfl, ?_⟩; have n0_ := Aside0.mk (Kd.R_mono (ok' := fun k_ => some k_ ≠ (.slice Ao34 t346.length co34 : Value).ownBlock) (Kd.R_keptB (HO_8.out) hkp (fun k_ hk_ hs_ => (hk_) hs_)) (fun k_ hk_ => hk_.1)); have n1_ := Aside0.mk (Kd.R_reok rfl hy0 (fun k_ e_ => HO_10.out.1 k_ e_)); have n2_ := Aside0.mk (Kd.R_mono (ok' := fun k_ => True) (Kd.R_keptB ((Kd.R_apart' HO_346001.out (Kd.R_typed HO_10.out) (by decide))) hkp (fun k_ hk_ hs_ => (hk_.2) hs_)) (fun k_ hk_ => trivial)); have n3_ := Aside0.mk (blk_kept (bk_ BK332.out) hkp (fun hs_ => (fun e_ => (Kd.R_ne HO_10.out BK332.out (by decide)) e_) hs_)); have n4_ := Aside0.mk (blk_kept (bk_ BK345.out) hkp (fun hs_ => (fun e_ => (Kd.R_ne HO_10.out BK345.out (by decide)) e_) hs_)); have n5_ := Aside0.mk (hb); clear HO_8; clear HO_10; clear HO_346001; clear BK332; clear BK345; clear HB; have HO_8 := n0_; have HO_10 := n1_; have HO_346001 := n2_; have BK332 := n3_; have BK345 := n4_; have HB := n5_; clear n0_ n1_ n2_ n3_ n4_ n5_; (try clear hb); (try clear hkp); (try clear hy0)) | ((with_reducible refine gate_callee (f := 28) rfl ?_); refine goesL_ (some 56) rfl rfl Try.func28 (by kernel_rfl) rfl #[.slice Ao34 t359.length co34, .int .i64 1] rfl (by (try simp only [List.map_toArray, List.map_cons, List.map_nil]); first | done | (rw [show t359.length = t346.length from (Kd.R_reads' HO_10.out).1.symm] <;> rfl) | rfl | (simp only [List.length_drop, List.length_take]; rfl)) ?_; (with_reducible refine (laws_heldInt64S.calls kj18 _ _ t359 1 t360 _ ?side1 ?side2 A46.out).mono ?_); (case side1 => repeat (first | exact (Kd.R_reads' HO_10.out).2.2 | (with_reducible refine Kd.C_alloc ?_ _) | (with_reducible refine Kd.C_drewN ?_ _) | (with_reducible refine Kd.C_drew ?_))); (case side2 => rw [show t359.length = t346.length from (Kd.R_reads' HO_10.out).1.symm]; exact (Kd.R_reads' HO_10.out).2.1); rintro e w' ⟨rfl, ⟨nd, rfl⟩⟩; refine ⟨_, rfl, ?_⟩; have hnb72 := NB332_345.out; have hnc72 := NB345_332.out; have hcz73_0 : w71.cell? ⟨gb332, 0, none⟩ = some (.int .i64 a0_0) := (blk_cell BK332.out 0).trans rfl; have hcz73_1 : w71.cell? ⟨gb332, 1, none⟩ = some (.slice A0_1 l0_1.length c0_1) := (blk_cell BK332.out 1).trans rfl; have hfz73_0 := blk_frozen BK332.out 0; have hfz73_1 := blk_frozen BK332.out 1) | ((with_reducible refine gate_callee (f := 16) rfl ?_); refine goesL_ (some 63) rfl rfl Try.func16 (by kernel_rfl) rfl #[.agg #[.int .i64 a0_0, .slice A0_1 l0_1.length c0_1]] rfl mp_ ?_; (with_reducible refine (laws_toTree.calls kj18 a0_0 _ _ l0_1 t361 t362 _ ?side1 ?side2 A50.out).mono ?_); (case side1 => repeat (first | exact (Kd.C_below HR0_1.out (bl2_ HB.out GE332.out GE345.out)) | (with_reducible refine Kd.C_alloc ?_ _) | (with_reducible refine Kd.C_drewN ?_ _) | (with_reducible refine Kd.C_drew ?_))); (case side2 => exact HC0_1.out); rintro e w74 ⟨v363, rfl, ho0, hb⟩; refine ⟨_, rfl, ?_⟩; have n0_ := Aside0.mk (Kd.R_below (ra_ HO_8.out) hb); have n1_ := Aside0.mk (Kd.R_below (ra_ HO_10.out) hb); have n2_ := Aside0.mk (Kd.R_elder' (ra_ HO_346001.out) (Kd.R_base ho0) hb); have n3_ := Aside0.mk (Kd.R_lower (Kd.R_new' ho0 (Kd.R_lt (ra_ HO_346001.out))) (below_size (bl2_ HB.out GE332.out GE345.out))); have n4_ := Aside0.mk (blk_below (g := gb332) (o := .cells #[.int .i64 a0_0, .slice A0_1 l0_1.length c0_1] 24 (0, 0)) (bk_ BK332.out) hb); have n5_ := Aside0.mk (blk_below (g := gb345) (o := .cells #[.int .i64 t341, .slice Ao32 t356.length co32] 29 (0, 0)) (bk_ BK345.out) hb); have n6_ := Aside0.mk (below_step (bl2_ HB.out GE332.out GE345.out) hb); clear HO_8; clear HO_10; clear HO_346001; clear BK332; clear BK345; clear HB; have HO_8 := n0_; have HO_10 := n1_; have HO_346001 := n2_; have HO364 := n3_; have BK332 := n4_; have BK345 := n5_; have HB := n6_; clear n0_ n1_ n2_ n3_ n4_ n5_ n6_; (try clear hb); (try clear hb2); (try clear hk); (try clear hi); (try clear ho0); obtain ⟨Ao75, co75, eo75⟩ := Kd.R_slice HO364.out; subst eo75) | ((with_reducible refine gate_callee (f := 24) rfl ?_); refine goesL_ (some 66) rfl rfl Try.func24 (by kernel_rfl) rfl #[.agg #[.int .i64 t361, .slice Ao75 t362.length co75], .int .i64 a1, .int .i64 a2] rfl mp_ ?_; (with_reducible refine (impl_TreeWay.calls kj18 t361 _ _ t362 a1 a2 t365 _ ?side1 ?side2 A51.out).mono ?_); (case side1 => repeat (first | exact (Kd.R_reads' HO364.out).2.2 | (with_reducible refine Kd.C_alloc ?_ _) | (with_reducible refine Kd.C_drewN ?_ _) | (with_reducible refine Kd.C_drew ?_))); (case side2 => exact (Kd.R_reads' HO364.out).2.1); rintro e w76 ⟨v366, rfl, ho0, hb⟩; refine ⟨_, rfl, ?_⟩; have n0_ := Aside0.mk (Kd.R_elder' (ra_ HO_8.out) (Kd.R_base ho0) hb); have n1_ := Aside0.mk (Kd.R_elder' (ra_ HO_10.out) (Kd.R_base ho0) hb); have n2_ := Aside0.mk (Kd.R_below (ra_ HO_346001.out) hb); have n3_ := Aside0.mk (Kd.R_below (ra_ HO364.out) hb); have n4_ := Aside0.mk (Kd.R_lower (Kd.R_new' (Kd.R_new' ho0 (Kd.R_lt (ra_ HO_8.out))) (Kd.R_lt (ra_ HO_10.out))) (below_size (bl2_ HB.out GE332.out GE345.out))); have n5_ := Aside0.mk (blk_below (g := gb332) (o := .cells #[.int .i64 a0_0, .slice A0_1 l0_1.length c0_1] 24 (0, 0)) (bk_ BK332.out) hb); have n6_ := Aside0.mk (blk_below (g := gb345) (o := .cells #[.int .i64 t341, .slice Ao32 t356.length co32] 29 (0, 0)) (bk_ BK345.out) hb); have n7_ := Aside0.mk (below_step (bl2_ HB.out GE332.out GE345.out) hb); clear HO_8; clear HO_10; clear HO_346001; clear HO364; clear BK332; clear BK345; clear HB; have HO_8 := n0_; have HO_10 := n1_; have HO_346001 := n2_; have HO364 := n3_; have HO367 := n4_; have BK332 := n5_; have BK345 := n6_; have HB := n7_; clear n0_ n1_ n2_ n3_ n4_ n5_ n6_ n7_; (try clear hb); (try clear hb2); (try clear hk); (try clear hi); (try clear ho0); obtain ⟨Ao77, co77, eo77⟩ := Kd.R_slice HO367.out; subst eo77) | ((with_reducible refine gate_callee (f := 25) rfl ?_); refine goesL_ (some 69) rfl rfl Try.func25 (by kernel_rfl) rfl #[.slice Ao77 t365.length co77, .slice Ao35 t338.length co35] rfl mp_ ?_; (with_reducible refine (laws_eqInt64S.calls kj18 _ _ t365 _ _ t338 true _ ?side1 ?side2 ?side3 ?side4 A52.out).mono ?_); (case side1 => repeat (first | exact (Kd.R_reads' HO367.out).2.2 | (with_reducible refine Kd.C_alloc ?_ _) | (with_reducible refine Kd.C_drewN ?_ _) | (with_reducible refine Kd.C_drew ?_))); (case side2 => exact (Kd.R_reads' HO367.out).2.1); (case side3 => repeat (first | exact (Kd.R_reads' HO_8.out).2.2 | (with_reducible refine Kd.C_alloc ?_ _) | (with_reducible refine Kd.C_drewN ?_ _) | (with_reducible refine Kd.C_drew ?_))); (case side4 => exact (Kd.R_reads' HO_8.out).2.1); rintro e w' ⟨rfl, ⟨nd, rfl⟩⟩; refine ⟨_, rfl, ?_⟩) | ((with_reducible refine gate_callee (f := 28) rfl ?_); refine goesL_ (some 73) rfl rfl Try.func28 (by kernel_rfl) rfl #[.slice Ao34 t359.length co34, .int .i64 1] rfl (by (try simp only [List.map_toArray, List.map_cons, List.map_nil]); first | done | (rw [show t359.length = t346.length from (Kd.R_reads' HO_10.out).1.symm] <;> rfl) | rfl | (simp only [List.length_drop, List.length_take]; rfl)) ?_; (with_reducible refine (laws_heldInt64S.calls kj18 _ _ t359 1 t369 _ ?side1 ?side2 A54.out).mono ?_); (case side1 => repeat (first | exact (Kd.R_reads' HO_10.out).2.2 | (with_reducible refine Kd.C_alloc ?_ _) | (with_reducible refine Kd.C_drewN ?_ _) | (with_reducible refine Kd.C_drew ?_))); (case side2 => rw [show t359.length = t346.length from (Kd.R_reads' HO_10.out).1.symm]; exact (Kd.R_reads' HO_10.out).2.1); rintro e w' ⟨rfl, ⟨nd, rfl⟩⟩; refine ⟨_, rfl, ?_⟩))
            go_ret
            exact ⟨by first | rfl | (simp [errW_none, errW_some] <;> rfl) | (simp [*, errW_none, errW_some] <;> rfl), by repeat (first | (with_reducible first | exact HB.out | apply below_alloc | apply pw_below_drewN | apply below_drew1 | refine below_set ?_ GE332.out | refine below_set ?_ GE345.out) | exact HB.out)⟩
         ·replace c53 := Bool.eq_false_iff.mpr c53
          subst c53
          have H1 : (some false) = some r := by rw [if_neg (show ¬ (false = true) by decide)] at H; exact H
          clear H
          have H := H1
          clear H1
          obtain rfl := Option.some.inj H
          go_wp2_with (first | ((with_reducible refine gate_callee (f := 27) rfl ?_); refine goesL_ (some 53) rfl rfl Try.func27 (by kernel_rfl) rfl #[.slice Ao34 t346.length co34, .int .i64 1] rfl mp_ ?_; (with_reducible refine (laws_markInt64S.calls kj18 (fun k_ => some k_ = (.slice Ao34 t346.length co34 : Value).ownBlock) (.slice Ao34 t346.length co34) t346 1 t358 t359 w _ ?side1 ?side2 A45.out).mono ?_); (case side1 => repeat (first | (with_reducible first | exact HB.out | apply below_alloc | apply pw_below_drewN | apply below_drew1 | refine below_set ?_ GE332.out | refine below_set ?_ GE345.out) | exact HB.out)); (case side2 => exact Kd.R_tight rfl HO_10.out); rintro e w78 ⟨rfl, hy0, hb, hkp⟩; refine ⟨_, rfl, ?_⟩; have n0_ := Aside0.mk (Kd.R_mono (ok' := fun k_ => some k_ ≠ (.slice Ao34 t346.length co34 : Value).ownBlock) (Kd.R_keptB (HO_8.out) hkp (fun k_ hk_ hs_ => (hk_) hs_)) (fun k_ hk_ => hk_.1)); have n1_ := Aside0.mk (Kd.R_reok rfl hy0 (fun k_ e_ => HO_10.out.1 k_ e_)); have n2_ := Aside0.mk (Kd.R_mono (ok' := fun k_ => True) (Kd.R_keptB ((Kd.R_apart' HO_346001.out (Kd.R_typed HO_10.out) (by decide))) hkp (fun k_ hk_ hs_ => (hk_.2) hs_)) (fun k_ hk_ => trivial)); have n3_ := Aside0.mk (blk_kept (bk_ BK332.out) hkp (fun hs_ => (fun e_ => (Kd.R_ne HO_10.out BK332.out (by decide)) e_) hs_)); have n4_ := Aside0.mk (blk_kept (bk_ BK345.out) hkp (fun hs_ => (fun e_ => (Kd.R_ne HO_10.out BK345.out (by decide)) e_) hs_)); have n5_ := Aside0.mk (hb); clear HO_8; clear HO_10; clear HO_346001; clear BK332; clear BK345; clear HB; have HO_8 := n0_; have HO_10 := n1_; have HO_346001 := n2_; have BK332 := n3_; have BK345 := n4_; have HB := n5_; clear n0_ n1_ n2_ n3_ n4_ n5_; (try clear hb); (try clear hkp); (try clear hy0)) | ((with_reducible refine gate_callee (f := 28) rfl ?_); refine goesL_ (some 56) rfl rfl Try.func28 (by kernel_rfl) rfl #[.slice Ao34 t359.length co34, .int .i64 1] rfl (by (try simp only [List.map_toArray, List.map_cons, List.map_nil]); first | done | (rw [show t359.length = t346.length from (Kd.R_reads' HO_10.out).1.symm] <;> rfl) | rfl | (simp only [List.length_drop, List.length_take]; rfl)) ?_; (with_reducible refine (laws_heldInt64S.calls kj18 _ _ t359 1 t360 _ ?side1 ?side2 A46.out).mono ?_); (case side1 => repeat (first | exact (Kd.R_reads' HO_10.out).2.2 | (with_reducible refine Kd.C_alloc ?_ _) | (with_reducible refine Kd.C_drewN ?_ _) | (with_reducible refine Kd.C_drew ?_))); (case side2 => rw [show t359.length = t346.length from (Kd.R_reads' HO_10.out).1.symm]; exact (Kd.R_reads' HO_10.out).2.1); rintro e w' ⟨rfl, ⟨nd, rfl⟩⟩; refine ⟨_, rfl, ?_⟩; have hnb79 := NB332_345.out; have hnc79 := NB345_332.out; have hcz80_0 : w78.cell? ⟨gb332, 0, none⟩ = some (.int .i64 a0_0) := (blk_cell BK332.out 0).trans rfl; have hcz80_1 : w78.cell? ⟨gb332, 1, none⟩ = some (.slice A0_1 l0_1.length c0_1) := (blk_cell BK332.out 1).trans rfl; have hfz80_0 := blk_frozen BK332.out 0; have hfz80_1 := blk_frozen BK332.out 1) | ((with_reducible refine gate_callee (f := 16) rfl ?_); refine goesL_ (some 63) rfl rfl Try.func16 (by kernel_rfl) rfl #[.agg #[.int .i64 a0_0, .slice A0_1 l0_1.length c0_1]] rfl mp_ ?_; (with_reducible refine (laws_toTree.calls kj18 a0_0 _ _ l0_1 t361 t362 _ ?side1 ?side2 A50.out).mono ?_); (case side1 => repeat (first | exact (Kd.C_below HR0_1.out (bl2_ HB.out GE332.out GE345.out)) | (with_reducible refine Kd.C_alloc ?_ _) | (with_reducible refine Kd.C_drewN ?_ _) | (with_reducible refine Kd.C_drew ?_))); (case side2 => exact HC0_1.out); rintro e w81 ⟨v363, rfl, ho0, hb⟩; refine ⟨_, rfl, ?_⟩; have n0_ := Aside0.mk (Kd.R_below (ra_ HO_8.out) hb); have n1_ := Aside0.mk (Kd.R_below (ra_ HO_10.out) hb); have n2_ := Aside0.mk (Kd.R_elder' (ra_ HO_346001.out) (Kd.R_base ho0) hb); have n3_ := Aside0.mk (Kd.R_lower (Kd.R_new' ho0 (Kd.R_lt (ra_ HO_346001.out))) (below_size (bl2_ HB.out GE332.out GE345.out))); have n4_ := Aside0.mk (blk_below (g := gb332) (o := .cells #[.int .i64 a0_0, .slice A0_1 l0_1.length c0_1] 24 (0, 0)) (bk_ BK332.out) hb); have n5_ := Aside0.mk (blk_below (g := gb345) (o := .cells #[.int .i64 t341, .slice Ao32 t356.length co32] 29 (0, 0)) (bk_ BK345.out) hb); have n6_ := Aside0.mk (below_step (bl2_ HB.out GE332.out GE345.out) hb); clear HO_8; clear HO_10; clear HO_346001; clear BK332; clear BK345; clear HB; have HO_8 := n0_; have HO_10 := n1_; have HO_346001 := n2_; have HO364 := n3_; have BK332 := n4_; have BK345 := n5_; have HB := n6_; clear n0_ n1_ n2_ n3_ n4_ n5_ n6_; (try clear hb); (try clear hb2); (try clear hk); (try clear hi); (try clear ho0); obtain ⟨Ao82, co82, eo82⟩ := Kd.R_slice HO364.out; subst eo82) | ((with_reducible refine gate_callee (f := 24) rfl ?_); refine goesL_ (some 66) rfl rfl Try.func24 (by kernel_rfl) rfl #[.agg #[.int .i64 t361, .slice Ao82 t362.length co82], .int .i64 a1, .int .i64 a2] rfl mp_ ?_; (with_reducible refine (impl_TreeWay.calls kj18 t361 _ _ t362 a1 a2 t365 _ ?side1 ?side2 A51.out).mono ?_); (case side1 => repeat (first | exact (Kd.R_reads' HO364.out).2.2 | (with_reducible refine Kd.C_alloc ?_ _) | (with_reducible refine Kd.C_drewN ?_ _) | (with_reducible refine Kd.C_drew ?_))); (case side2 => exact (Kd.R_reads' HO364.out).2.1); rintro e w83 ⟨v366, rfl, ho0, hb⟩; refine ⟨_, rfl, ?_⟩; have n0_ := Aside0.mk (Kd.R_elder' (ra_ HO_8.out) (Kd.R_base ho0) hb); have n1_ := Aside0.mk (Kd.R_elder' (ra_ HO_10.out) (Kd.R_base ho0) hb); have n2_ := Aside0.mk (Kd.R_below (ra_ HO_346001.out) hb); have n3_ := Aside0.mk (Kd.R_below (ra_ HO364.out) hb); have n4_ := Aside0.mk (Kd.R_lower (Kd.R_new' (Kd.R_new' ho0 (Kd.R_lt (ra_ HO_8.out))) (Kd.R_lt (ra_ HO_10.out))) (below_size (bl2_ HB.out GE332.out GE345.out))); have n5_ := Aside0.mk (blk_below (g := gb332) (o := .cells #[.int .i64 a0_0, .slice A0_1 l0_1.length c0_1] 24 (0, 0)) (bk_ BK332.out) hb); have n6_ := Aside0.mk (blk_below (g := gb345) (o := .cells #[.int .i64 t341, .slice Ao32 t356.length co32] 29 (0, 0)) (bk_ BK345.out) hb); have n7_ := Aside0.mk (below_step (bl2_ HB.out GE332.out GE345.out) hb); clear HO_8; clear HO_10; clear HO_346001; clear HO364; clear BK332; clear BK345; clear HB; have HO_8 := n0_; have HO_10 := n1_; have HO_346001 := n2_; have HO364 := n3_; have HO367 := n4_; have BK332 := n5_; have BK345 := n6_; have HB := n7_; clear n0_ n1_ n2_ n3_ n4_ n5_ n6_ n7_; (try clear hb); (try clear hb2); (try clear hk); (try clear hi); (try clear ho0); obtain ⟨Ao84, co84, eo84⟩ := Kd.R_slice HO367.out; subst eo84) | ((with_reducible refine gate_callee (f := 25) rfl ?_); refine goesL_ (some 69) rfl rfl Try.func25 (by kernel_rfl) rfl #[.slice Ao84 t365.length co84, .slice Ao35 t338.length co35] rfl mp_ ?_; (with_reducible refine (laws_eqInt64S.calls kj18 _ _ t365 _ _ t338 false _ ?side1 ?side2 ?side3 ?side4 A52.out).mono ?_); (case side1 => repeat (first | exact (Kd.R_reads' HO367.out).2.2 | (with_reducible refine Kd.C_alloc ?_ _) | (with_reducible refine Kd.C_drewN ?_ _) | (with_reducible refine Kd.C_drew ?_))); (case side2 => exact (Kd.R_reads' HO367.out).2.1); (case side3 => repeat (first | exact (Kd.R_reads' HO_8.out).2.2 | (with_reducible refine Kd.C_alloc ?_ _) | (with_reducible refine Kd.C_drewN ?_ _) | (with_reducible refine Kd.C_drew ?_))); (case side4 => exact (Kd.R_reads' HO_8.out).2.1); rintro e w' ⟨rfl, ⟨nd, rfl⟩⟩; refine ⟨_, rfl, ?_⟩))
          go_ret
          exact ⟨by first | rfl | (simp [errW_none, errW_some] <;> rfl) | (simp [*, errW_none, errW_some] <;> rfl), by repeat (first | (with_reducible first | exact HB.out | apply below_alloc | apply pw_below_drewN | apply below_drew1 | refine below_set ?_ GE332.out | refine below_set ?_ GE345.out) | exact HB.out)⟩
        ·rw [if_neg c49] at H
         have c49b0 : (t360 == t358) = false := beq_eq_false_iff_ne.mpr c49
         have c49b1 : (t360 != t358) = true := bne_iff_ne.mpr c49
         obtain rfl := Option.some.inj H
         go_wp2_with (first | ((with_reducible refine gate_callee (f := 27) rfl ?_); refine goesL_ (some 53) rfl rfl Try.func27 (by kernel_rfl) rfl #[.slice Ao34 t346.length co34, .int .i64 1] rfl mp_ ?_; (with_reducible refine (laws_markInt64S.calls kj18 (fun k_ => some k_ = (.slice Ao34 t346.length co34 : Value).ownBlock) (.slice Ao34 t346.length co34) t346 1 t358 t359 w _ ?side1 ?side2 A45.out).mono ?_); (case side1 => repeat (first | (with_reducible first | exact HB.out | apply below_alloc | apply pw_below_drewN | apply below_drew1 | refine below_set ?_ GE332.out | refine below_set ?_ GE345.out) | exact HB.out)); (case side2 => exact Kd.R_tight rfl HO_10.out); rintro e w85 ⟨rfl, hy0, hb, hkp⟩; refine ⟨_, rfl, ?_⟩; have n0_ := Aside0.mk (Kd.R_mono (ok' := fun k_ => some k_ ≠ (.slice Ao34 t346.length co34 : Value).ownBlock) (Kd.R_keptB (HO_8.out) hkp (fun k_ hk_ hs_ => (hk_) hs_)) (fun k_ hk_ => hk_.1)); have n1_ := Aside0.mk (Kd.R_reok rfl hy0 (fun k_ e_ => HO_10.out.1 k_ e_)); have n2_ := Aside0.mk (Kd.R_mono (ok' := fun k_ => True) (Kd.R_keptB ((Kd.R_apart' HO_346001.out (Kd.R_typed HO_10.out) (by decide))) hkp (fun k_ hk_ hs_ => (hk_.2) hs_)) (fun k_ hk_ => trivial)); have n3_ := Aside0.mk (blk_kept (bk_ BK332.out) hkp (fun hs_ => (fun e_ => (Kd.R_ne HO_10.out BK332.out (by decide)) e_) hs_)); have n4_ := Aside0.mk (blk_kept (bk_ BK345.out) hkp (fun hs_ => (fun e_ => (Kd.R_ne HO_10.out BK345.out (by decide)) e_) hs_)); have n5_ := Aside0.mk (hb); clear HO_8; clear HO_10; clear HO_346001; clear BK332; clear BK345; clear HB; have HO_8 := n0_; have HO_10 := n1_; have HO_346001 := n2_; have BK332 := n3_; have BK345 := n4_; have HB := n5_; clear n0_ n1_ n2_ n3_ n4_ n5_; (try clear hb); (try clear hkp); (try clear hy0)) | ((with_reducible refine gate_callee (f := 28) rfl ?_); refine goesL_ (some 56) rfl rfl Try.func28 (by kernel_rfl) rfl #[.slice Ao34 t359.length co34, .int .i64 1] rfl (by (try simp only [List.map_toArray, List.map_cons, List.map_nil]); first | done | (rw [show t359.length = t346.length from (Kd.R_reads' HO_10.out).1.symm] <;> rfl) | rfl | (simp only [List.length_drop, List.length_take]; rfl)) ?_; (with_reducible refine (laws_heldInt64S.calls kj18 _ _ t359 1 t360 _ ?side1 ?side2 A46.out).mono ?_); (case side1 => repeat (first | exact (Kd.R_reads' HO_10.out).2.2 | (with_reducible refine Kd.C_alloc ?_ _) | (with_reducible refine Kd.C_drewN ?_ _) | (with_reducible refine Kd.C_drew ?_))); (case side2 => rw [show t359.length = t346.length from (Kd.R_reads' HO_10.out).1.symm]; exact (Kd.R_reads' HO_10.out).2.1); rintro e w' ⟨rfl, ⟨nd, rfl⟩⟩; refine ⟨_, rfl, ?_⟩))
         go_ret
         exact ⟨by first | rfl | (simp [errW_none, errW_some] <;> rfl) | (simp [*, errW_none, errW_some] <;> rfl), by repeat (first | (with_reducible first | exact HB.out | apply below_alloc | apply pw_below_drewN | apply below_drew1 | refine below_set ?_ GE332.out | refine below_set ?_ GE345.out) | exact HB.out)⟩
   ·replace c17 := Bool.eq_false_iff.mpr c17
    subst c17
    have H1 : (some false) = some r := by rw [if_neg (show ¬ (false = true) by decide)] at H; exact H
    clear H
    have H := H1
    clear H1
    obtain rfl := Option.some.inj H
    go_enter Try.func6, Try.ntmps6
    try go_wp2_with (first | ((with_reducible refine gate_dst (N := 3) rfl ?_); refine box_event ?hg (N := 3) ?hd (cs := #[.int .i64 a0_0, .slice A0_1 l0_1.length c0_1]) (t := 24) ?hr ?_; (case hd => rfl); (case hg => rfl); (case hr => first | (go_simp; done) | (go_simp; rfl)); intro gb332 hg w86 hbox hb; have n0_ := Aside0.mk (below_step (bl0_ HB.out) hb); have n1_ := Aside0.mk (hbox); have n2_ := Aside0.mk ((by rw [hg]; exact (below_size (bl0_ HB.out)) : w.heap.size ≤ gb332)); have n3_ := Aside0.mk ((by rw [hg]; exact (below_size (bl0_ HB.out)) : w.heap.size ≤ gb332)); clear HB; have HB := n0_; have BK332 := n1_; have GW332 := n2_; have GE332 := n3_; clear n0_ n1_ n2_ n3_; clear hb hbox hg; have hcz87_0 : w86.cell? ⟨gb332, 0, none⟩ = some (.int .i64 a0_0) := (blk_cell BK332.out 0).trans rfl; have hcz87_1 : w86.cell? ⟨gb332, 1, none⟩ = some (.slice A0_1 l0_1.length c0_1) := (blk_cell BK332.out 1).trans rfl; have hfz87_0 := blk_frozen BK332.out 0; have hfz87_1 := blk_frozen BK332.out 1) | ((with_reducible refine gate_callee (f := 14) rfl ?_); refine goesL_ (some 17) rfl rfl Try.func14 (by kernel_rfl) rfl #[.agg #[.int .i64 a0_0, .slice A0_1 l0_1.length c0_1], .int .i64 1048576] rfl mp_ ?_; (with_reducible refine (laws_szTree.calls a0_0 _ _ l0_1 1048576 t333 _ ?side1 ?side2 A4.out).mono ?_); (case side1 => repeat (first | exact (Kd.C_below HR0_1.out HB.out) | (with_reducible refine Kd.C_alloc ?_ _) | (with_reducible refine Kd.C_drewN ?_ _) | (with_reducible refine Kd.C_drew ?_))); (case side2 => exact HC0_1.out); rintro e w88 ⟨rfl, hb⟩; refine ⟨_, rfl, ?_⟩; have n0_ := Aside0.mk (blk_below (g := gb332) (o := .cells #[.int .i64 a0_0, .slice A0_1 l0_1.length c0_1] 24 (0, 0)) (bk_ BK332.out) hb); have n1_ := Aside0.mk (below_step (bl1_ HB.out GE332.out) hb); clear BK332; clear HB; have BK332 := n0_; have HB := n1_; clear n0_ n1_; (try clear hb); (try clear hb2); (try clear hk); (try clear hi); have hcz89_0 : w88.cell? ⟨gb332, 0, none⟩ = some (.int .i64 a0_0) := (blk_cell BK332.out 0).trans rfl; have hcz89_1 : w88.cell? ⟨gb332, 1, none⟩ = some (.slice A0_1 l0_1.length c0_1) := (blk_cell BK332.out 1).trans rfl; have hfz89_0 := blk_frozen BK332.out 0; have hfz89_1 := blk_frozen BK332.out 1) | ((with_reducible refine gate_callee (f := 16) rfl ?_); refine goesL_ (some 21) rfl rfl Try.func16 (by kernel_rfl) rfl #[.agg #[.int .i64 a0_0, .slice A0_1 l0_1.length c0_1]] rfl mp_ ?_; (with_reducible refine (laws_toTree.calls k a0_0 _ _ l0_1 t334 t335 _ ?side1 ?side2 A9.out).mono ?_); (case side1 => repeat (first | exact (Kd.C_below HR0_1.out HB.out) | (with_reducible refine Kd.C_alloc ?_ _) | (with_reducible refine Kd.C_drewN ?_ _) | (with_reducible refine Kd.C_drew ?_))); (case side2 => exact HC0_1.out); rintro e w90 ⟨v336, rfl, ho0, hb⟩; refine ⟨_, rfl, ?_⟩; have n0_ := Aside0.mk (Kd.R_lower ho0 (below_size (bl1_ HB.out GE332.out))); have n1_ := Aside0.mk (blk_below (g := gb332) (o := .cells #[.int .i64 a0_0, .slice A0_1 l0_1.length c0_1] 24 (0, 0)) (bk_ BK332.out) hb); have n2_ := Aside0.mk (below_step (bl1_ HB.out GE332.out) hb); clear BK332; clear HB; have HO337 := n0_; have BK332 := n1_; have HB := n2_; clear n0_ n1_ n2_; (try clear hb); (try clear hb2); (try clear hk); (try clear hi); (try clear ho0); obtain ⟨Ao91, co91, eo91⟩ := Kd.R_slice HO337.out; subst eo91) | ((with_reducible refine gate_callee (f := 23) rfl ?_); refine goesL_ (some 24) rfl rfl Try.func23 (by kernel_rfl) rfl #[.agg #[.int .i64 t334, .slice Ao91 t335.length co91], .int .i64 a1, .int .i64 a2] rfl mp_ ?_; (with_reducible refine (spec_TreeWay.calls k t334 _ _ t335 a1 a2 t338 _ ?side1 ?side2 A10.out).mono ?_); (case side1 => repeat (first | exact (Kd.R_reads' HO337.out).2.2 | (with_reducible refine Kd.C_alloc ?_ _) | (with_reducible refine Kd.C_drewN ?_ _) | (with_reducible refine Kd.C_drew ?_))); (case side2 => exact (Kd.R_reads' HO337.out).2.1); rintro e w92 ⟨v339, rfl, ho0, hb⟩; refine ⟨_, rfl, ?_⟩; have n0_ := Aside0.mk (Kd.R_below (ra_ HO337.out) hb); have n1_ := Aside0.mk (Kd.R_lower ho0 (below_size (bl1_ HB.out GE332.out))); have n2_ := Aside0.mk (blk_below (g := gb332) (o := .cells #[.int .i64 a0_0, .slice A0_1 l0_1.length c0_1] 24 (0, 0)) (bk_ BK332.out) hb); have n3_ := Aside0.mk (below_step (bl1_ HB.out GE332.out) hb); clear HO337; clear BK332; clear HB; have HO337 := n0_; have HO340 := n1_; have BK332 := n2_; have HB := n3_; clear n0_ n1_ n2_ n3_; (try clear hb); (try clear hb2); (try clear hk); (try clear hi); (try clear ho0); have hcz93_0 : w92.cell? ⟨gb332, 0, none⟩ = some (.int .i64 a0_0) := (blk_cell BK332.out 0).trans rfl; have hcz93_1 : w92.cell? ⟨gb332, 1, none⟩ = some (.slice A0_1 l0_1.length c0_1) := (blk_cell BK332.out 1).trans rfl; have hfz93_0 := blk_frozen BK332.out 0; have hfz93_1 := blk_frozen BK332.out 1) | ((with_reducible refine gate_callee (f := 16) rfl ?_); refine goesL_ (some 26) rfl rfl Try.func16 (by kernel_rfl) rfl #[.agg #[.int .i64 a0_0, .slice A0_1 l0_1.length c0_1]] rfl mp_ ?_; (with_reducible refine (laws_toTree.calls k a0_0 _ _ l0_1 t341 t342 _ ?side1 ?side2 A11.out).mono ?_); (case side1 => repeat (first | exact (Kd.C_below HR0_1.out HB.out) | (with_reducible refine Kd.C_alloc ?_ _) | (with_reducible refine Kd.C_drewN ?_ _) | (with_reducible refine Kd.C_drew ?_))); (case side2 => exact HC0_1.out); rintro e w94 ⟨v343, rfl, ho0, hb⟩; refine ⟨_, rfl, ?_⟩; have n0_ := Aside0.mk (Kd.R_elder' (ra_ HO337.out) (Kd.R_base ho0) hb); have n1_ := Aside0.mk (Kd.R_below (ra_ HO340.out) hb); have n2_ := Aside0.mk (Kd.R_lower (Kd.R_new' ho0 (Kd.R_lt (ra_ HO337.out))) (below_size (bl1_ HB.out GE332.out))); have n3_ := Aside0.mk (blk_below (g := gb332) (o := .cells #[.int .i64 a0_0, .slice A0_1 l0_1.length c0_1] 24 (0, 0)) (bk_ BK332.out) hb); have n4_ := Aside0.mk (below_step (bl1_ HB.out GE332.out) hb); clear HO337; clear HO340; clear BK332; clear HB; have HO337 := n0_; have HO340 := n1_; have HO344 := n2_; have BK332 := n3_; have HB := n4_; clear n0_ n1_ n2_ n3_ n4_; (try clear hb); (try clear hb2); (try clear hk); (try clear hi); (try clear ho0)) | ((with_reducible refine gate_dst (N := 9) rfl ?_); refine box_event ?hg (N := 9) ?hd (cs := #[.int .i64 0, .slice none 0 0]) (t := 29) ?hr ?_; (case hd => rfl); (case hg => rfl); (case hr => first | (go_simp; done) | (go_simp; rfl)); intro gb345 hg w95 hbox hb; have n0_ := Aside0.mk (Kd.R_below (ra_ HO337.out) hb); have n1_ := Aside0.mk (Kd.R_below (ra_ HO340.out) hb); have n2_ := Aside0.mk (Kd.R_below (ra_ HO344.out) hb); have n3_ := Aside0.mk (blk_below (g := gb332) (o := .cells #[.int .i64 a0_0, .slice A0_1 l0_1.length c0_1] 24 (0, 0)) (bk_ BK332.out) hb); have n4_ := Aside0.mk (below_step (bl1_ HB.out GE332.out) hb); have n5_ := Aside0.mk (hbox); have n6_ := Aside0.mk ((by rw [hg]; exact (below_size (bl1_ HB.out GE332.out)) : w.heap.size ≤ gb345)); have n7_ := Aside0.mk ((by rw [hg]; exact (below_size (bl1_ HB.out GE332.out)) : w.heap.size ≤ gb345)); have n8_ := Aside0.mk ((by rw [hg]; exact Nat.ne_of_lt (blk_lt (bk_ BK332.out)) : gb332 ≠ gb345)); have n9_ := Aside0.mk ((by rw [hg]; exact Nat.ne_of_gt (blk_lt (bk_ BK332.out)) : gb345 ≠ gb332)); clear HO337; clear HO340; clear HO344; clear BK332; clear HB; have HO337 := n0_; have HO340 := n1_; have HO344 := n2_; have BK332 := n3_; have HB := n4_; have BK345 := n5_; have GW345 := n6_; have GE345 := n7_; have NB332_345 := n8_; have NB345_332 := n9_; clear n0_ n1_ n2_ n3_ n4_ n5_ n6_ n7_ n8_ n9_; clear hb hbox hg; have hnb96 := NB345_332.out; have hnc96 := NB332_345.out; have hcz97_0 : w95.cell? ⟨gb345, 0, none⟩ = some (.int .i64 0) := (blk_cell BK345.out 0).trans rfl; have hcz97_1 : w95.cell? ⟨gb345, 1, none⟩ = some (.slice none 0 0) := (blk_cell BK345.out 1).trans rfl; have hfz97_0 := blk_frozen BK345.out 0; have hfz97_1 := blk_frozen BK345.out 1; obtain ⟨Ao98, co98, eo98⟩ := Kd.R_slice HO344.out; subst eo98) | ((with_reducible refine gate_callee (f := 24) rfl ?_); refine goesL_ (some 30) rfl rfl Try.func24 (by kernel_rfl) rfl #[.agg #[.int .i64 t341, .slice Ao98 t342.length co98], .int .i64 a1, .int .i64 a2] rfl mp_ ?_; (with_reducible refine (impl_TreeWay.calls k t341 _ _ t342 a1 a2 t346 _ ?side1 ?side2 A12.out).mono ?_); (case side1 => refine (Kd.R_reads' (e := 71) (base := w.heap.size) (ok := fun k_ => (True ∧ some k_ ≠ (.slice Ao91 t335.length co91 : Value).ownBlock)) (n := t342.length) (c := co98) ?_).2.2; exact (by (with_reducible repeat (first | apply Kd.R_alloc | apply Kd.R_drewN | apply Kd.R_drew)); exact (Kd.R_mono (Kd.R_far (p := ⟨gb345, 1, none⟩) (Kd.R_far (p := ⟨gb345, 0, none⟩) (Kd.R_types HO344.out BK345.out (by decide)) (fun _ hk => hk.2) (.int .i64 t341)) (fun _ hk => hk.2) (.slice Ao98 t342.length co98)) (fun _ h_ => h_.1)))); (case side2 => exact (Kd.R_reads' HO344.out).2.1); rintro e w99 ⟨v347, rfl, ho0, hb⟩; refine ⟨_, rfl, ?_⟩; have n0_ := Aside0.mk (Kd.R_below (by (with_reducible repeat (first | apply Kd.R_alloc | apply Kd.R_drewN | apply Kd.R_drew)); exact (Kd.R_mono (Kd.R_far (p := ⟨gb345, 1, none⟩) (Kd.R_far (p := ⟨gb345, 0, none⟩) (Kd.R_types HO337.out BK345.out (by decide)) (fun _ hk => hk.2) (.int .i64 t341)) (fun _ hk => hk.2) (.slice Ao98 t342.length co98)) (fun _ h_ => h_.1))) hb); have n1_ := Aside0.mk (Kd.R_elder' (by (with_reducible repeat (first | apply Kd.R_alloc | apply Kd.R_drewN | apply Kd.R_drew)); exact (Kd.R_mono (Kd.R_far (p := ⟨gb345, 1, none⟩) (Kd.R_far (p := ⟨gb345, 0, none⟩) (Kd.R_types HO340.out BK345.out (by decide)) (fun _ hk => hk.2) (.int .i64 t341)) (fun _ hk => hk.2) (.slice Ao98 t342.length co98)) (fun _ h_ => h_.1))) (Kd.R_base ho0) hb); have n2_ := Aside0.mk (Kd.R_below (by (with_reducible repeat (first | apply Kd.R_alloc | apply Kd.R_drewN | apply Kd.R_drew)); exact (Kd.R_mono (Kd.R_far (p := ⟨gb345, 1, none⟩) (Kd.R_far (p := ⟨gb345, 0, none⟩) (Kd.R_types HO344.out BK345.out (by decide)) (fun _ hk => hk.2) (.int .i64 t341)) (fun _ hk => hk.2) (.slice Ao98 t342.length co98)) (fun _ h_ => h_.1))) hb); have n3_ := Aside0.mk (Kd.R_lower (Kd.R_new' ho0 (Kd.R_lt (by (with_reducible repeat (first | apply Kd.R_alloc | apply Kd.R_drewN | apply Kd.R_drew)); exact (Kd.R_mono (Kd.R_far (p := ⟨gb345, 1, none⟩) (Kd.R_far (p := ⟨gb345, 0, none⟩) (Kd.R_types HO340.out BK345.out (by decide)) (fun _ hk => hk.2) (.int .i64 t341)) (fun _ hk => hk.2) (.slice Ao98 t342.length co98)) (fun _ h_ => h_.1))))) (below_size (bl2_ HB.out GE332.out GE345.out))); have n4_ := Aside0.mk (blk_below (g := gb332) (o := .cells #[.int .i64 a0_0, .slice A0_1 l0_1.length c0_1] 24 (0, 0)) (by (with_reducible repeat (first | refine blk_drewN ?_ _ | refine blk_drew ?_ | refine blk_alloc ?_ _)); refine blk_far ?_ NB332_345.out _; (with_reducible repeat (first | refine blk_drewN ?_ _ | refine blk_drew ?_ | refine blk_alloc ?_ _)); refine blk_far ?_ NB332_345.out _; (with_reducible repeat (first | refine blk_drewN ?_ _ | refine blk_drew ?_ | refine blk_alloc ?_ _)); exact BK332.out) hb); have n5_ := Aside0.mk (blk_below (g := gb345) (o := .cells #[.int .i64 t341, .slice Ao98 t342.length co98] 29 (0, 0)) (by (with_reducible repeat (first | refine blk_drewN ?_ _ | refine blk_drew ?_ | refine blk_alloc ?_ _)); refine blk_put (cs := #[.int .i64 t341, .slice none 0 0]) ?_ 1 _ rfl; (with_reducible repeat (first | refine blk_drewN ?_ _ | refine blk_drew ?_ | refine blk_alloc ?_ _)); refine blk_put (cs := #[.int .i64 0, .slice none 0 0]) ?_ 0 _ rfl; (with_reducible repeat (first | refine blk_drewN ?_ _ | refine blk_drew ?_ | refine blk_alloc ?_ _)); exact BK345.out) hb); have n6_ := Aside0.mk (below_step (bl2_ HB.out GE332.out GE345.out) hb); clear HO337; clear HO340; clear HO344; clear BK332; clear BK345; clear HB; have HO337 := n0_; have HO340 := n1_; have HO344 := n2_; have HO348 := n3_; have BK332 := n4_; have BK345 := n5_; have HB := n6_; clear n0_ n1_ n2_ n3_ n4_ n5_ n6_; (try clear hb); (try clear hb2); (try clear hk); (try clear hi); (try clear ho0); obtain ⟨Ao100, co100, eo100⟩ := Kd.R_slice HO348.out; subst eo100; obtain ⟨Ao101, co101, eo101⟩ := Kd.R_slice HO340.out; subst eo101) | ((with_reducible refine gate_callee (f := 25) rfl ?_); refine goesL_ (some 33) rfl rfl Try.func25 (by kernel_rfl) rfl #[.slice Ao100 t346.length co100, .slice Ao101 t338.length co101] rfl mp_ ?_; (with_reducible refine (laws_eqInt64S.calls k _ _ t346 _ _ t338 true _ ?side1 ?side2 ?side3 ?side4 A13.out).mono ?_); (case side1 => repeat (first | exact (Kd.R_reads' HO348.out).2.2 | (with_reducible refine Kd.C_alloc ?_ _) | (with_reducible refine Kd.C_drewN ?_ _) | (with_reducible refine Kd.C_drew ?_))); (case side2 => exact (Kd.R_reads' HO348.out).2.1); (case side3 => repeat (first | exact (Kd.R_reads' HO340.out).2.2 | (with_reducible refine Kd.C_alloc ?_ _) | (with_reducible refine Kd.C_drewN ?_ _) | (with_reducible refine Kd.C_drew ?_))); (case side4 => exact (Kd.R_reads' HO340.out).2.1); rintro e w' ⟨rfl, ⟨nd, rfl⟩⟩; refine ⟨_, rfl, ?_⟩))
    (try (rw [drewN_self w99]; generalize hq_ : World.drewN w99 _ = w99; have n0_ : Aside0 (Kd.R k71 71 w99 w.heap.size (fun k_ => (True ∧ some k_ ≠ (.slice Ao98 t342.length co98 : Value).ownBlock)) (.slice Ao91 t335.length co91) t335) := ⟨by rw [← hq_]; exact (ra_ HO337.out)⟩; have n1_ : Aside0 (Kd.R (Kd.int .i64) 2 w99 w.heap.size (fun k_ => (True ∧ some k_ ≠ (.slice Ao100 t346.length co100 : Value).ownBlock)) (.slice Ao101 t338.length co101) t338) := ⟨by rw [← hq_]; exact (ra_ HO340.out)⟩; have n2_ : Aside0 (Kd.R k71 71 w99 w.heap.size (fun k_ => (True ∧ some k_ ≠ (.slice Ao91 t335.length co91 : Value).ownBlock)) (.slice Ao98 t342.length co98) t342) := ⟨by rw [← hq_]; exact (ra_ HO344.out)⟩; have n3_ : Aside0 (Kd.R (Kd.int .i64) 2 w99 w.heap.size (fun k_ => (True ∧ some k_ ≠ (.slice Ao101 t338.length co101 : Value).ownBlock)) (.slice Ao100 t346.length co100) t346) := ⟨by rw [← hq_]; exact (ra_ HO348.out)⟩; have n4_ : Aside0 (w99.heap[gb332]? = some (.cells #[.int .i64 a0_0, .slice A0_1 l0_1.length c0_1] 24 (0, 0))) := ⟨by rw [← hq_]; exact (bk_ BK332.out)⟩; have n5_ : Aside0 (w99.heap[gb345]? = some (.cells #[.int .i64 t341, .slice Ao98 t342.length co98] 29 (0, 0))) := ⟨by rw [← hq_]; exact (bk_ BK345.out)⟩; have n6_ : Aside0 (Below w.heap.size w w99) := ⟨by rw [← hq_]; exact (bl2_ HB.out GE332.out GE345.out)⟩; clear HO337 HO340 HO344 HO348 BK332 BK345 HB hq_; have HO337 := n0_; have HO340 := n1_; have HO344 := n2_; have HO348 := n3_; have BK332 := n4_; have BK345 := n5_; have HB := n6_; clear n0_ n1_ n2_ n3_ n4_ n5_ n6_))
    have n0_ := Aside0.mk (Kd.R_drew HO337.out)
    have n1_ := Aside0.mk (Kd.R_drew HO340.out)
    have n2_ := Aside0.mk (Kd.R_drew HO344.out)
    have n3_ := Aside0.mk (Kd.R_drew HO348.out)
    have n4_ := Aside0.mk (blk_drew BK332.out)
    have n5_ := Aside0.mk (blk_drew BK345.out)
    have n6_ := Aside0.mk (below_drew1 HB.out)
    clear HO337
    clear HO340
    clear HO344
    clear HO348
    clear BK332
    clear BK345
    clear HB
    have HO337 := n0_
    have HO340 := n1_
    have HO344 := n2_
    have HO348 := n3_
    have BK332 := n4_
    have BK345 := n5_
    have HB := n6_
    clear n0_ n1_ n2_ n3_ n4_ n5_ n6_
    refine start_ (n := 5) (S := fun w' => w'.cell? ⟨gb345, 0, none⟩ = some (.int .i64 t341) ∧ w'.cell? ⟨gb345, 1, none⟩ = some (.slice Ao98 t342.length co98) ∧ w'.cell? ⟨gb332, 0, none⟩ = some (.int .i64 a0_0) ∧ w'.cell? ⟨gb332, 1, none⟩ = some (.slice A0_1 l0_1.length c0_1)) (ds := []) #[false, false, false, false, false] (by kernel_rfl) rfl rfl ⟨(blk_cell BK345.out 0).trans rfl, (blk_cell BK345.out 1).trans rfl, (blk_cell BK332.out 0).trans rfl, (blk_cell BK332.out 1).trans rfl⟩ (fun hHeld => ?_)
    generalize w99.drew = w102 at HO337 HO340 HO344 HO348 BK332 BK345 HB hHeld ⊢
    refine take_ (i := 0) (N := some 35) (v := ?_) (a' := ?_) #[true, false, false, false, false] rfl rfl (by kernel_rfl) (fun _ _ _ h => h) (Or.inl ⟨by rfl, ?_⟩) hHeld ?_ ?_
    rotate_left
    ·rintro w' ⟨s0, s1, s2, s3⟩
     go_simp
     with_reducible rfl
    rotate_left
    ·simp only [Act.put, List.setIfInBounds_toArray, List.set_cons_zero, List.set_cons_succ, i64_w, i32_w]
     rfl
    refine take_ (i := 1) (N := some 36) (v := ?_) (a' := ?_) #[true, true, false, false, false] rfl rfl (by kernel_rfl) (fun _ _ _ h => h) (Or.inl ⟨by rfl, ?_⟩) hHeld ?_ ?_
    rotate_left
    ·rintro w' ⟨s0, s1, s2, s3⟩
     go_simp
     with_reducible rfl
    rotate_left
    ·simp only [Act.put, List.setIfInBounds_toArray, List.set_cons_zero, List.set_cons_succ, i64_w, i32_w]
     rfl
    refine one_ (i := 2) (N := some 37) #[true, true, true, false, false] rfl rfl (by kernel_rfl) (by decide) (fun K hK => ?_)
    refine goes_ Try.func16 (by kernel_rfl) rfl #[.agg #[.int .i64 a0_0, .slice A0_1 l0_1.length c0_1]] (by rfl) rfl rfl mp_ ?_
    with_reducible refine (laws_toTree.calls k a0_0 _ _ l0_1 t350 t351 _ ?side1 ?side2 A15.out).mono ?_
    (case side1 => repeat (first | exact (Kd.C_below HR0_1.out HB.out) | (with_reducible refine Kd.C_alloc ?_ _) | (with_reducible refine Kd.C_drewN ?_ _) | (with_reducible refine Kd.C_drew ?_)))
    (case side2 => exact HC0_1.out)
    rintro e w103 ⟨v352, rfl, ho0, hb⟩
    refine ⟨_, rfl, ?_⟩
    have n0_ := Aside0.mk (Kd.R_elder' (ra_ HO337.out) (Kd.R_base ho0) hb)
    have n1_ := Aside0.mk (Kd.R_below (ra_ HO340.out) hb)
    have n2_ := Aside0.mk (Kd.R_elder' (ra_ HO344.out) (Kd.R_base ho0) hb)
    have n3_ := Aside0.mk (Kd.R_below (ra_ HO348.out) hb)
    have n4_ := Aside0.mk (Kd.R_lower (Kd.R_new' (Kd.R_new' ho0 (Kd.R_lt (ra_ HO337.out))) (Kd.R_lt (ra_ HO344.out))) (below_size (bl2_ HB.out GE332.out GE345.out)))
    have n5_ := Aside0.mk (blk_below (g := gb332) (o := .cells #[.int .i64 a0_0, .slice A0_1 l0_1.length c0_1] 24 (0, 0)) (bk_ BK332.out) hb)
    have n6_ := Aside0.mk (blk_below (g := gb345) (o := .cells #[.int .i64 t341, .slice Ao98 t342.length co98] 29 (0, 0)) (bk_ BK345.out) hb)
    have n7_ := Aside0.mk (below_step (bl2_ HB.out GE332.out GE345.out) hb)
    clear HO337
    clear HO340
    clear HO344
    clear HO348
    clear BK332
    clear BK345
    clear HB
    have HO337 := n0_
    have HO340 := n1_
    have HO344 := n2_
    have HO348 := n3_
    have HO353 := n4_
    have BK332 := n5_
    have BK345 := n6_
    have HB := n7_
    clear n0_ n1_ n2_ n3_ n4_ n5_ n6_ n7_
    (try clear hb)
    (try clear hb2)
    (try clear hk)
    (try clear hi)
    (try clear ho0)
    obtain ⟨Ao104, co104, eo104⟩ := Kd.R_slice HO353.out
    (first | subst eo104 | (injection eo104 with f1_ f2_ f3_; have f4_ := f1_.symm; have f5_ := f3_.symm; clear f1_ f2_ f3_; subst f4_; subst f5_))
    refine hK.out _ _ ⟨(blk_cell BK345.out 0).trans rfl, (blk_cell BK345.out 1).trans rfl, (blk_cell BK332.out 0).trans rfl, (blk_cell BK332.out 1).trans rfl⟩ (fun hHeld => ?_)
    clear hK K
    refine norm_ (a' := ?_) ?_ ?_
    rotate_left
    ·show Act.put _ (some 37) _ = _
     simp only [Act.put, List.setIfInBounds_toArray, List.set_cons_zero, List.set_cons_succ, i64_w, i32_w]
     rfl
    refine one_ (i := 3) (N := some 38) #[true, true, true, true, false] rfl rfl (by kernel_rfl) (by decide) (fun K hK => ?_)
    refine goes_ Try.func18 (by kernel_rfl) rfl #[.agg #[.int .i64 t341, .slice Ao98 t342.length co98], .agg #[.int .i64 t350, .slice Ao104 t351.length co104]] (by rfl) rfl rfl mp_ ?_
    with_reducible refine (laws_eqTree.calls k t341 _ _ t342 t350 _ _ t351 false _ ?side1 ?side2 ?side3 ?side4 A16.out).mono ?_
    (case side1 => repeat (first | exact (Kd.R_reads' HO344.out).2.2 | (with_reducible refine Kd.C_alloc ?_ _) | (with_reducible refine Kd.C_drewN ?_ _) | (with_reducible refine Kd.C_drew ?_)))
    (case side2 => exact (Kd.R_reads' HO344.out).2.1)
    (case side3 => repeat (first | exact (Kd.R_reads' HO353.out).2.2 | (with_reducible refine Kd.C_alloc ?_ _) | (with_reducible refine Kd.C_drewN ?_ _) | (with_reducible refine Kd.C_drew ?_)))
    (case side4 => exact (Kd.R_reads' HO353.out).2.1)
    rintro e w105 ⟨rfl, hb⟩
    refine ⟨_, rfl, ?_⟩
    have n0_ := Aside0.mk (Kd.R_below (ra_ HO337.out) hb)
    have n1_ := Aside0.mk (Kd.R_below (ra_ HO340.out) hb)
    have n2_ := Aside0.mk (Kd.R_below (ra_ HO344.out) hb)
    have n3_ := Aside0.mk (Kd.R_below (ra_ HO348.out) hb)
    have n4_ := Aside0.mk (Kd.R_below (ra_ HO353.out) hb)
    have n5_ := Aside0.mk (blk_below (g := gb332) (o := .cells #[.int .i64 a0_0, .slice A0_1 l0_1.length c0_1] 24 (0, 0)) (bk_ BK332.out) hb)
    have n6_ := Aside0.mk (blk_below (g := gb345) (o := .cells #[.int .i64 t341, .slice Ao98 t342.length co98] 29 (0, 0)) (bk_ BK345.out) hb)
    have n7_ := Aside0.mk (below_step (bl2_ HB.out GE332.out GE345.out) hb)
    clear HO337
    clear HO340
    clear HO344
    clear HO348
    clear HO353
    clear BK332
    clear BK345
    clear HB
    have HO337 := n0_
    have HO340 := n1_
    have HO344 := n2_
    have HO348 := n3_
    have HO353 := n4_
    have BK332 := n5_
    have BK345 := n6_
    have HB := n7_
    clear n0_ n1_ n2_ n3_ n4_ n5_ n6_ n7_
    (try clear hb)
    (try clear hb2)
    (try clear hk)
    (try clear hi)
    refine hK.out _ _ ⟨(blk_cell BK345.out 0).trans rfl, (blk_cell BK345.out 1).trans rfl, (blk_cell BK332.out 0).trans rfl, (blk_cell BK332.out 1).trans rfl⟩ (fun hHeld => ?_)
    clear hK K
    refine norm_ (a' := ?_) ?_ ?_
    rotate_left
    ·show Act.put _ (some 38) _ = _
     simp only [Act.put, List.setIfInBounds_toArray, List.set_cons_zero, List.set_cons_succ, i64_w, i32_w]
     rfl
    refine pure_ (i := 4) (N := some 39) (v := ?_) (a' := ?_) #[true, true, true, true, true] rfl rfl (by kernel_rfl) (fun _ _ _ h => h) (Or.inl ⟨by rfl, ?_⟩) ?_ ?_
    rotate_left
    ·intro w'
     go_simp
     with_reducible rfl
    rotate_left
    ·simp only [Act.put, List.setIfInBounds_toArray, List.set_cons_zero, List.set_cons_succ, i64_w, i32_w]
     rfl
    refine done_ (by kernel_rfl) ?_
    try go_wp2
    go_ret
    exact ⟨by first | rfl | (simp [errW_none, errW_some] <;> rfl) | (simp [*, errW_none, errW_some] <;> rfl), by repeat (first | (with_reducible first | exact HB.out | apply below_alloc | apply pw_below_drewN | apply below_drew1 | refine below_set ?_ GE332.out | refine below_set ?_ GE345.out) | exact HB.out)⟩
  ·replace c14 := Bool.eq_false_iff.mpr c14
   subst c14
   have H1 : (some false) = some r := by rw [if_neg (show ¬ (false = true) by decide)] at H; exact H
   clear H
   have H := H1
   clear H1
   obtain rfl := Option.some.inj H
   go_enter Try.func6, Try.ntmps6
   go_wp2_with (first | ((with_reducible refine gate_dst (N := 3) rfl ?_); refine box_event ?hg (N := 3) ?hd (cs := #[.int .i64 a0_0, .slice A0_1 l0_1.length c0_1]) (t := 24) ?hr ?_; (case hd => rfl); (case hg => rfl); (case hr => first | (go_simp; done) | (go_simp; rfl)); intro gb332 hg w106 hbox hb; have n0_ := Aside0.mk (below_step (bl0_ HB.out) hb); have n1_ := Aside0.mk (hbox); have n2_ := Aside0.mk ((by rw [hg]; exact (below_size (bl0_ HB.out)) : w.heap.size ≤ gb332)); have n3_ := Aside0.mk ((by rw [hg]; exact (below_size (bl0_ HB.out)) : w.heap.size ≤ gb332)); clear HB; have HB := n0_; have BK332 := n1_; have GW332 := n2_; have GE332 := n3_; clear n0_ n1_ n2_ n3_; clear hb hbox hg; have hcz107_0 : w106.cell? ⟨gb332, 0, none⟩ = some (.int .i64 a0_0) := (blk_cell BK332.out 0).trans rfl; have hcz107_1 : w106.cell? ⟨gb332, 1, none⟩ = some (.slice A0_1 l0_1.length c0_1) := (blk_cell BK332.out 1).trans rfl; have hfz107_0 := blk_frozen BK332.out 0; have hfz107_1 := blk_frozen BK332.out 1) | ((with_reducible refine gate_callee (f := 14) rfl ?_); refine goesL_ (some 17) rfl rfl Try.func14 (by kernel_rfl) rfl #[.agg #[.int .i64 a0_0, .slice A0_1 l0_1.length c0_1], .int .i64 1048576] rfl mp_ ?_; (with_reducible refine (laws_szTree.calls a0_0 _ _ l0_1 1048576 t333 _ ?side1 ?side2 A4.out).mono ?_); (case side1 => repeat (first | exact (Kd.C_below HR0_1.out HB.out) | (with_reducible refine Kd.C_alloc ?_ _) | (with_reducible refine Kd.C_drewN ?_ _) | (with_reducible refine Kd.C_drew ?_))); (case side2 => exact HC0_1.out); rintro e w108 ⟨rfl, hb⟩; refine ⟨_, rfl, ?_⟩; have n0_ := Aside0.mk (blk_below (g := gb332) (o := .cells #[.int .i64 a0_0, .slice A0_1 l0_1.length c0_1] 24 (0, 0)) (bk_ BK332.out) hb); have n1_ := Aside0.mk (below_step (bl1_ HB.out GE332.out) hb); clear BK332; clear HB; have BK332 := n0_; have HB := n1_; clear n0_ n1_; (try clear hb); (try clear hb2); (try clear hk); (try clear hi); have hcz109_0 : w108.cell? ⟨gb332, 0, none⟩ = some (.int .i64 a0_0) := (blk_cell BK332.out 0).trans rfl; have hcz109_1 : w108.cell? ⟨gb332, 1, none⟩ = some (.slice A0_1 l0_1.length c0_1) := (blk_cell BK332.out 1).trans rfl; have hfz109_0 := blk_frozen BK332.out 0; have hfz109_1 := blk_frozen BK332.out 1) | ((with_reducible refine gate_callee (f := 16) rfl ?_); refine goesL_ (some 21) rfl rfl Try.func16 (by kernel_rfl) rfl #[.agg #[.int .i64 a0_0, .slice A0_1 l0_1.length c0_1]] rfl mp_ ?_; (with_reducible refine (laws_toTree.calls k a0_0 _ _ l0_1 t334 t335 _ ?side1 ?side2 A9.out).mono ?_); (case side1 => repeat (first | exact (Kd.C_below HR0_1.out HB.out) | (with_reducible refine Kd.C_alloc ?_ _) | (with_reducible refine Kd.C_drewN ?_ _) | (with_reducible refine Kd.C_drew ?_))); (case side2 => exact HC0_1.out); rintro e w110 ⟨v336, rfl, ho0, hb⟩; refine ⟨_, rfl, ?_⟩; have n0_ := Aside0.mk (Kd.R_lower ho0 (below_size (bl1_ HB.out GE332.out))); have n1_ := Aside0.mk (blk_below (g := gb332) (o := .cells #[.int .i64 a0_0, .slice A0_1 l0_1.length c0_1] 24 (0, 0)) (bk_ BK332.out) hb); have n2_ := Aside0.mk (below_step (bl1_ HB.out GE332.out) hb); clear BK332; clear HB; have HO337 := n0_; have BK332 := n1_; have HB := n2_; clear n0_ n1_ n2_; (try clear hb); (try clear hb2); (try clear hk); (try clear hi); (try clear ho0); obtain ⟨Ao111, co111, eo111⟩ := Kd.R_slice HO337.out; subst eo111) | ((with_reducible refine gate_callee (f := 23) rfl ?_); refine goesL_ (some 24) rfl rfl Try.func23 (by kernel_rfl) rfl #[.agg #[.int .i64 t334, .slice Ao111 t335.length co111], .int .i64 a1, .int .i64 a2] rfl mp_ ?_; (with_reducible refine (spec_TreeWay.calls k t334 _ _ t335 a1 a2 t338 _ ?side1 ?side2 A10.out).mono ?_); (case side1 => repeat (first | exact (Kd.R_reads' HO337.out).2.2 | (with_reducible refine Kd.C_alloc ?_ _) | (with_reducible refine Kd.C_drewN ?_ _) | (with_reducible refine Kd.C_drew ?_))); (case side2 => exact (Kd.R_reads' HO337.out).2.1); rintro e w112 ⟨v339, rfl, ho0, hb⟩; refine ⟨_, rfl, ?_⟩; have n0_ := Aside0.mk (Kd.R_below (ra_ HO337.out) hb); have n1_ := Aside0.mk (Kd.R_lower ho0 (below_size (bl1_ HB.out GE332.out))); have n2_ := Aside0.mk (blk_below (g := gb332) (o := .cells #[.int .i64 a0_0, .slice A0_1 l0_1.length c0_1] 24 (0, 0)) (bk_ BK332.out) hb); have n3_ := Aside0.mk (below_step (bl1_ HB.out GE332.out) hb); clear HO337; clear BK332; clear HB; have HO337 := n0_; have HO340 := n1_; have BK332 := n2_; have HB := n3_; clear n0_ n1_ n2_ n3_; (try clear hb); (try clear hb2); (try clear hk); (try clear hi); (try clear ho0); have hcz113_0 : w112.cell? ⟨gb332, 0, none⟩ = some (.int .i64 a0_0) := (blk_cell BK332.out 0).trans rfl; have hcz113_1 : w112.cell? ⟨gb332, 1, none⟩ = some (.slice A0_1 l0_1.length c0_1) := (blk_cell BK332.out 1).trans rfl; have hfz113_0 := blk_frozen BK332.out 0; have hfz113_1 := blk_frozen BK332.out 1) | ((with_reducible refine gate_callee (f := 16) rfl ?_); refine goesL_ (some 26) rfl rfl Try.func16 (by kernel_rfl) rfl #[.agg #[.int .i64 a0_0, .slice A0_1 l0_1.length c0_1]] rfl mp_ ?_; (with_reducible refine (laws_toTree.calls k a0_0 _ _ l0_1 t341 t342 _ ?side1 ?side2 A11.out).mono ?_); (case side1 => repeat (first | exact (Kd.C_below HR0_1.out HB.out) | (with_reducible refine Kd.C_alloc ?_ _) | (with_reducible refine Kd.C_drewN ?_ _) | (with_reducible refine Kd.C_drew ?_))); (case side2 => exact HC0_1.out); rintro e w114 ⟨v343, rfl, ho0, hb⟩; refine ⟨_, rfl, ?_⟩; have n0_ := Aside0.mk (Kd.R_elder' (ra_ HO337.out) (Kd.R_base ho0) hb); have n1_ := Aside0.mk (Kd.R_below (ra_ HO340.out) hb); have n2_ := Aside0.mk (Kd.R_lower (Kd.R_new' ho0 (Kd.R_lt (ra_ HO337.out))) (below_size (bl1_ HB.out GE332.out))); have n3_ := Aside0.mk (blk_below (g := gb332) (o := .cells #[.int .i64 a0_0, .slice A0_1 l0_1.length c0_1] 24 (0, 0)) (bk_ BK332.out) hb); have n4_ := Aside0.mk (below_step (bl1_ HB.out GE332.out) hb); clear HO337; clear HO340; clear BK332; clear HB; have HO337 := n0_; have HO340 := n1_; have HO344 := n2_; have BK332 := n3_; have HB := n4_; clear n0_ n1_ n2_ n3_ n4_; (try clear hb); (try clear hb2); (try clear hk); (try clear hi); (try clear ho0)) | ((with_reducible refine gate_dst (N := 9) rfl ?_); refine box_event ?hg (N := 9) ?hd (cs := #[.int .i64 0, .slice none 0 0]) (t := 29) ?hr ?_; (case hd => rfl); (case hg => rfl); (case hr => first | (go_simp; done) | (go_simp; rfl)); intro gb345 hg w115 hbox hb; have n0_ := Aside0.mk (Kd.R_below (ra_ HO337.out) hb); have n1_ := Aside0.mk (Kd.R_below (ra_ HO340.out) hb); have n2_ := Aside0.mk (Kd.R_below (ra_ HO344.out) hb); have n3_ := Aside0.mk (blk_below (g := gb332) (o := .cells #[.int .i64 a0_0, .slice A0_1 l0_1.length c0_1] 24 (0, 0)) (bk_ BK332.out) hb); have n4_ := Aside0.mk (below_step (bl1_ HB.out GE332.out) hb); have n5_ := Aside0.mk (hbox); have n6_ := Aside0.mk ((by rw [hg]; exact (below_size (bl1_ HB.out GE332.out)) : w.heap.size ≤ gb345)); have n7_ := Aside0.mk ((by rw [hg]; exact (below_size (bl1_ HB.out GE332.out)) : w.heap.size ≤ gb345)); have n8_ := Aside0.mk ((by rw [hg]; exact Nat.ne_of_lt (blk_lt (bk_ BK332.out)) : gb332 ≠ gb345)); have n9_ := Aside0.mk ((by rw [hg]; exact Nat.ne_of_gt (blk_lt (bk_ BK332.out)) : gb345 ≠ gb332)); clear HO337; clear HO340; clear HO344; clear BK332; clear HB; have HO337 := n0_; have HO340 := n1_; have HO344 := n2_; have BK332 := n3_; have HB := n4_; have BK345 := n5_; have GW345 := n6_; have GE345 := n7_; have NB332_345 := n8_; have NB345_332 := n9_; clear n0_ n1_ n2_ n3_ n4_ n5_ n6_ n7_ n8_ n9_; clear hb hbox hg; have hnb116 := NB345_332.out; have hnc116 := NB332_345.out; have hcz117_0 : w115.cell? ⟨gb345, 0, none⟩ = some (.int .i64 0) := (blk_cell BK345.out 0).trans rfl; have hcz117_1 : w115.cell? ⟨gb345, 1, none⟩ = some (.slice none 0 0) := (blk_cell BK345.out 1).trans rfl; have hfz117_0 := blk_frozen BK345.out 0; have hfz117_1 := blk_frozen BK345.out 1; obtain ⟨Ao118, co118, eo118⟩ := Kd.R_slice HO344.out; subst eo118) | ((with_reducible refine gate_callee (f := 24) rfl ?_); refine goesL_ (some 30) rfl rfl Try.func24 (by kernel_rfl) rfl #[.agg #[.int .i64 t341, .slice Ao118 t342.length co118], .int .i64 a1, .int .i64 a2] rfl mp_ ?_; (with_reducible refine (impl_TreeWay.calls k t341 _ _ t342 a1 a2 t346 _ ?side1 ?side2 A12.out).mono ?_); (case side1 => refine (Kd.R_reads' (e := 71) (base := w.heap.size) (ok := fun k_ => (True ∧ some k_ ≠ (.slice Ao111 t335.length co111 : Value).ownBlock)) (n := t342.length) (c := co118) ?_).2.2; exact (by (with_reducible repeat (first | apply Kd.R_alloc | apply Kd.R_drewN | apply Kd.R_drew)); exact (Kd.R_mono (Kd.R_far (p := ⟨gb345, 1, none⟩) (Kd.R_far (p := ⟨gb345, 0, none⟩) (Kd.R_types HO344.out BK345.out (by decide)) (fun _ hk => hk.2) (.int .i64 t341)) (fun _ hk => hk.2) (.slice Ao118 t342.length co118)) (fun _ h_ => h_.1)))); (case side2 => exact (Kd.R_reads' HO344.out).2.1); rintro e w119 ⟨v347, rfl, ho0, hb⟩; refine ⟨_, rfl, ?_⟩; have n0_ := Aside0.mk (Kd.R_below (by (with_reducible repeat (first | apply Kd.R_alloc | apply Kd.R_drewN | apply Kd.R_drew)); exact (Kd.R_mono (Kd.R_far (p := ⟨gb345, 1, none⟩) (Kd.R_far (p := ⟨gb345, 0, none⟩) (Kd.R_types HO337.out BK345.out (by decide)) (fun _ hk => hk.2) (.int .i64 t341)) (fun _ hk => hk.2) (.slice Ao118 t342.length co118)) (fun _ h_ => h_.1))) hb); have n1_ := Aside0.mk (Kd.R_elder' (by (with_reducible repeat (first | apply Kd.R_alloc | apply Kd.R_drewN | apply Kd.R_drew)); exact (Kd.R_mono (Kd.R_far (p := ⟨gb345, 1, none⟩) (Kd.R_far (p := ⟨gb345, 0, none⟩) (Kd.R_types HO340.out BK345.out (by decide)) (fun _ hk => hk.2) (.int .i64 t341)) (fun _ hk => hk.2) (.slice Ao118 t342.length co118)) (fun _ h_ => h_.1))) (Kd.R_base ho0) hb); have n2_ := Aside0.mk (Kd.R_below (by (with_reducible repeat (first | apply Kd.R_alloc | apply Kd.R_drewN | apply Kd.R_drew)); exact (Kd.R_mono (Kd.R_far (p := ⟨gb345, 1, none⟩) (Kd.R_far (p := ⟨gb345, 0, none⟩) (Kd.R_types HO344.out BK345.out (by decide)) (fun _ hk => hk.2) (.int .i64 t341)) (fun _ hk => hk.2) (.slice Ao118 t342.length co118)) (fun _ h_ => h_.1))) hb); have n3_ := Aside0.mk (Kd.R_lower (Kd.R_new' ho0 (Kd.R_lt (by (with_reducible repeat (first | apply Kd.R_alloc | apply Kd.R_drewN | apply Kd.R_drew)); exact (Kd.R_mono (Kd.R_far (p := ⟨gb345, 1, none⟩) (Kd.R_far (p := ⟨gb345, 0, none⟩) (Kd.R_types HO340.out BK345.out (by decide)) (fun _ hk => hk.2) (.int .i64 t341)) (fun _ hk => hk.2) (.slice Ao118 t342.length co118)) (fun _ h_ => h_.1))))) (below_size (bl2_ HB.out GE332.out GE345.out))); have n4_ := Aside0.mk (blk_below (g := gb332) (o := .cells #[.int .i64 a0_0, .slice A0_1 l0_1.length c0_1] 24 (0, 0)) (by (with_reducible repeat (first | refine blk_drewN ?_ _ | refine blk_drew ?_ | refine blk_alloc ?_ _)); refine blk_far ?_ NB332_345.out _; (with_reducible repeat (first | refine blk_drewN ?_ _ | refine blk_drew ?_ | refine blk_alloc ?_ _)); refine blk_far ?_ NB332_345.out _; (with_reducible repeat (first | refine blk_drewN ?_ _ | refine blk_drew ?_ | refine blk_alloc ?_ _)); exact BK332.out) hb); have n5_ := Aside0.mk (blk_below (g := gb345) (o := .cells #[.int .i64 t341, .slice Ao118 t342.length co118] 29 (0, 0)) (by (with_reducible repeat (first | refine blk_drewN ?_ _ | refine blk_drew ?_ | refine blk_alloc ?_ _)); refine blk_put (cs := #[.int .i64 t341, .slice none 0 0]) ?_ 1 _ rfl; (with_reducible repeat (first | refine blk_drewN ?_ _ | refine blk_drew ?_ | refine blk_alloc ?_ _)); refine blk_put (cs := #[.int .i64 0, .slice none 0 0]) ?_ 0 _ rfl; (with_reducible repeat (first | refine blk_drewN ?_ _ | refine blk_drew ?_ | refine blk_alloc ?_ _)); exact BK345.out) hb); have n6_ := Aside0.mk (below_step (bl2_ HB.out GE332.out GE345.out) hb); clear HO337; clear HO340; clear HO344; clear BK332; clear BK345; clear HB; have HO337 := n0_; have HO340 := n1_; have HO344 := n2_; have HO348 := n3_; have BK332 := n4_; have BK345 := n5_; have HB := n6_; clear n0_ n1_ n2_ n3_ n4_ n5_ n6_; (try clear hb); (try clear hb2); (try clear hk); (try clear hi); (try clear ho0); obtain ⟨Ao120, co120, eo120⟩ := Kd.R_slice HO348.out; subst eo120; obtain ⟨Ao121, co121, eo121⟩ := Kd.R_slice HO340.out; subst eo121) | ((with_reducible refine gate_callee (f := 25) rfl ?_); refine goesL_ (some 33) rfl rfl Try.func25 (by kernel_rfl) rfl #[.slice Ao120 t346.length co120, .slice Ao121 t338.length co121] rfl mp_ ?_; (with_reducible refine (laws_eqInt64S.calls k _ _ t346 _ _ t338 false _ ?side1 ?side2 ?side3 ?side4 A13.out).mono ?_); (case side1 => repeat (first | exact (Kd.R_reads' HO348.out).2.2 | (with_reducible refine Kd.C_alloc ?_ _) | (with_reducible refine Kd.C_drewN ?_ _) | (with_reducible refine Kd.C_drew ?_))); (case side2 => exact (Kd.R_reads' HO348.out).2.1); (case side3 => repeat (first | exact (Kd.R_reads' HO340.out).2.2 | (with_reducible refine Kd.C_alloc ?_ _) | (with_reducible refine Kd.C_drewN ?_ _) | (with_reducible refine Kd.C_drew ?_))); (case side4 => exact (Kd.R_reads' HO340.out).2.1); rintro e w' ⟨rfl, ⟨nd, rfl⟩⟩; refine ⟨_, rfl, ?_⟩))
   go_ret
   exact ⟨by first | rfl | (simp [errW_none, errW_some] <;> rfl) | (simp [*, errW_none, errW_some] <;> rfl), by repeat (first | (with_reducible first | exact HB.out | apply below_alloc | apply pw_below_drewN | apply below_drew1 | refine below_set ?_ GE332.out | refine below_set ?_ GE345.out) | exact HB.out)⟩

end Go.Proofs.Ytnbhnkpefhdgjaa.H
