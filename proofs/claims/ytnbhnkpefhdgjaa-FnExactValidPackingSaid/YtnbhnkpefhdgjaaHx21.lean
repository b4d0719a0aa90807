/- For functions of the translation: a Lean function each, and that the call of the Go function comes to its answer. Written by this session's own program (myprint.py, over the kit's printer). -/
import Derived.Test.YtnbhnkpefhdgjaaHx0
import Derived.Test.YtnbhnkpefhdgjaaHx1
import Derived.Test.YtnbhnkpefhdgjaaHx18
import Derived.Test.YtnbhnkpefhdgjaaHx19
import Derived.Test.YtnbhnkpefhdgjaaHx20
--compacted
namespace Go.Proofs.Ytnbhnkpefhdgjaa.H
open Go.RowKit Go.Proofs.YtnbhnkpefhdgjaaW.PrintWords Go.Proofs.YtnbhnkpefhdgjaaW.PrintLast Go.Proofs.YtnbhnkpefhdgjaaW.PrintMore
attribute [local go_sem] max2_int min2_int max_two min_two max_three min_three max_four min_four   -- for this text's walks alone
set_option linter.unusedVariables false
set_option linter.unusedSimpArgs false

/-! ### laws_FnExactValidPacking: function 9 -/
def laws_FnExactValidPacking.f (k : Nat) (a0_0 : Int) (l0_1 : List (S104)) (a1 : Int) (l2 : List (S91)) : Option (Bool) := (laws_szTree.f a0_0 l0_1 1048576).bind fun t550 => (if t550 < 0 then (some true) else ((laws_szSpotS.f l2 t550).bind fun t551 => (if t551 < 0 then (some true) else ((laws_toTree.f k a0_0 l0_1).bind fun bt552 => ((laws_toSpotS.f k l2).bind fun t556 => ((spec_ValidPacking.f k bt552.1 bt552.2 a1 t556).bind fun t559 => ((laws_toTree.f k a0_0 l0_1).bind fun bt560 => ((laws_toSpotS.f k l2).bind fun t565 => ((impl_ValidPacking.f k bt560.1 bt560.2 a1 t565).bind fun t568 => (if (t568 != t559) = true then (some false) else ((laws_toTree.f k a0_0 l0_1).bind fun bt569 => ((laws_eqTree.f k bt560.1 bt560.2 bt569.1 bt569.2).bind fun t573 => (if t573 = true then ((laws_toSpotS.f k l2).bind fun t574 => ((laws_eqSpotS.f k t565 t574).bind fun t577 => (if t577 = true then (some true) else (some false)))) else (some false))))))))))))))
theorem laws_FnExactValidPacking.mono : ∀ a0 a1 a2 a3 k, LeO (laws_FnExactValidPacking.f k a0 a1 a2 a3) (laws_FnExactValidPacking.f (k + 1) a0 a1 a2 a3) := by
 intro a0 a1 a2 a3 k
 unfold laws_FnExactValidPacking.f
 repeat' first
   | (with_reducible exact impl_ValidPacking.mono _ _ _ _ _)
   | (with_reducible exact laws_eqSpotS.mono _ _ _)
   | (with_reducible exact laws_eqTree.mono _ _ _ _ _)
   | (with_reducible exact laws_toSpotS.mono _ _)
   | (with_reducible exact laws_toTree.mono _ _ _)
   | (with_reducible exact spec_ValidPacking.mono _ _ _ _ _)
   | (with_reducible exact LeO.refl _)
   | (with_reducible exact LeO.none _)
   | (with_reducible refine LeO.ite ?_ ?_)
   | (with_reducible refine LeO.bind ?_ (fun _ => ?_))
   | exact impl_ValidPacking.mono _ _ _ _ _
   | exact laws_eqSpotS.mono _ _ _
   | exact laws_eqTree.mono _ _ _ _ _
   | exact laws_toSpotS.mono _ _
   | exact laws_toTree.mono _ _ _
   | exact spec_ValidPacking.mono _ _ _ _ _
   | exact LeO.none _
   | refine LeO.ite ?_ ?_
   | refine LeO.bind ?_ (fun _ => ?_)
set_option maxHeartbeats 8000000 in
set_option maxRecDepth 100000 in
theorem laws_FnExactValidPacking.calls (k : Nat) (a0_0 : Int) (A0_1 : Option Addr) (c0_1 : Nat) (l0_1 : List (S104)) (a1 : Int) (A2 : Option Addr) (c2 : Nat) (l2 : List (S91)) (r : Bool) (w : World) (hr0_1 : Kd.C k104 w A0_1 l0_1.length l0_1) (hc0_1 : l0_1.length ≤ c0_1) (hr2 : Kd.C k91 w A2 l2.length l2) (hc2 : l2.length ≤ c2) (h : laws_FnExactValidPacking.f k a0_0 l0_1 a1 l2 = some r) :
  Calls Try.prog 9 #[.agg #[.int .i64 a0_0, .slice A0_1 l0_1.length c0_1], .int .i64 a1, .slice A2 l2.length c2] w fun e w' => e = .returned (.bool r) ∧ Below w.heap.size w w' := by
 have hu24 := Try.underlying24
 have hu29 := Try.underlying29
 have HR0_1 := Aside0.mk hr0_1
 have HC0_1 := Aside0.mk hc0_1
 clear hr0_1 hc0_1
 have HR2 := Aside0.mk hr2
 have HC2 := Aside0.mk hc2
 clear hr2 hc2
 have HB := Aside0.mk (Below.refl w.heap.size w)
 have H : ((laws_szTree.f a0_0 l0_1 1048576).bind fun t550 => (if t550 < 0 then (some true) else ((laws_szSpotS.f l2 t550).bind fun t551 => (if t551 < 0 then (some true) else ((laws_toTree.f k a0_0 l0_1).bind fun bt552 => ((laws_toSpotS.f k l2).bind fun t556 => ((spec_ValidPacking.f k bt552.1 bt552.2 a1 t556).bind fun t559 => ((laws_toTree.f k a0_0 l0_1).bind fun bt560 => ((laws_toSpotS.f k l2).bind fun t565 => ((impl_ValidPacking.f k bt560.1 bt560.2 a1 t565).bind fun t568 => (if (t568 != t559) = true then (some false) else ((laws_toTree.f k a0_0 l0_1).bind fun bt569 => ((laws_eqTree.f k bt560.1 bt560.2 bt569.1 bt569.2).bind fun t573 => (if t573 = true then ((laws_toSpotS.f k l2).bind fun t574 => ((laws_eqSpotS.f k t565 t574).bind fun t577 => (if t577 = true then (some true) else (some false)))) else (some false))))))))))))))) = some r := h
 clear h
 replace H := Option.bind_eq_some_iff.mp H
 obtain ⟨t550, A40, H⟩ := H
 replace H : (if t550 < 0 then (some true) else ((laws_szSpotS.f l2 t550).bind fun t551 => (if t551 < 0 then (some true) else ((laws_toTree.f k a0_0 l0_1).bind fun bt552 => ((laws_toSpotS.f k l2).bind fun t556 => ((spec_ValidPacking.f k bt552.1 bt552.2 a1 t556).bind fun t559 => ((laws_toTree.f k a0_0 l0_1).bind fun bt560 => ((laws_toSpotS.f k l2).bind fun t565 => ((impl_ValidPacking.f k bt560.1 bt560.2 a1 t565).bind fun t568 => (if (t568 != t559) = true then (some false) else ((laws_toTree.f k a0_0 l0_1).bind fun bt569 => ((laws_eqTree.f k bt560.1 bt560.2 bt569.1 bt569.2).bind fun t573 => (if t573 = true then ((laws_toSpotS.f k l2).bind fun t574 => ((laws_eqSpotS.f k t565 t574).bind fun t577 => (if t577 = true then (some true) else (some false)))) else (some false)))))))))))))) = some r := H
 have A4 := Aside0.mk A40
 clear A40
 by_cases c5 : t550 < 0
 ·rw [if_pos c5] at H
  have c5b0 : decide (t550 < 0) = true := decide_eq_true c5
  clear c5
  obtain rfl := Option.some.inj H
  go_enter Try.func9, Try.ntmps9
  go_wp2_with (first | ((with_reducible refine gate_dst (N := 3) rfl ?_); refine box_event ?hg (N := 3) ?hd (cs := #[.int .i64 a0_0, .slice A0_1 l0_1.length c0_1]) (t := 24) ?hr ?_; (case hd => rfl); (case hg => rfl); (case hr => first | (go_simp; done) | (go_simp; rfl)); intro gb549 hg w6 hbox hb; have n0_ := Aside0.mk (below_step (bl0_ HB.out) hb); have n1_ := Aside0.mk (hbox); have n2_ := Aside0.mk ((by rw [hg]; exact (below_size (bl0_ HB.out)) : w.heap.size ≤ gb549)); have n3_ := Aside0.mk ((by rw [hg]; exact (below_size (bl0_ HB.out)) : w.heap.size ≤ gb549)); clear HB; have HB := n0_; have BK549 := n1_; have GW549 := n2_; have GE549 := n3_; clear n0_ n1_ n2_ n3_; clear hb hbox hg; have hcz7_0 : w6.cell? ⟨gb549, 0, none⟩ = some (.int .i64 a0_0) := (blk_cell BK549.out 0).trans rfl; have hcz7_1 : w6.cell? ⟨gb549, 1, none⟩ = some (.slice A0_1 l0_1.length c0_1) := (blk_cell BK549.out 1).trans rfl; have hfz7_0 := blk_frozen BK549.out 0; have hfz7_1 := blk_frozen BK549.out 1) | ((with_reducible refine gate_callee (f := 14) rfl ?_); refine goesL_ (some 14) rfl rfl Try.func14 (by kernel_rfl) rfl #[.agg #[.int .i64 a0_0, .slice A0_1 l0_1.length c0_1], .int .i64 1048576] rfl mp_ ?_; (with_reducible refine (laws_szTree.calls a0_0 _ _ l0_1 1048576 t550 _ ?side1 ?side2 A4.out).mono ?_); (case side1 => repeat (first | exact (Kd.C_below HR0_1.out HB.out) | (with_reducible refine Kd.C_alloc ?_ _) | (with_reducible refine Kd.C_drewN ?_ _) | (with_reducible refine Kd.C_drew ?_))); (case side2 => exact HC0_1.out); rintro e w8 ⟨rfl, hb⟩; refine ⟨_, rfl, ?_⟩; have n0_ := Aside0.mk (blk_below (g := gb549) (o := .cells #[.int .i64 a0_0, .slice A0_1 l0_1.length c0_1] 24 (0, 0)) (bk_ BK549.out) hb); have n1_ := Aside0.mk (below_step (bl1_ HB.out GE549.out) hb); clear BK549; clear HB; have BK549 := n0_; have HB := n1_; clear n0_ n1_; (try clear hb); (try clear hb2); (try clear hk); (try clear hi)))
  go_ret
  exact ⟨by first | rfl | (simp [errW_none, errW_some] <;> rfl) | (simp [*, errW_none, errW_some] <;> rfl), by repeat (first | (with_reducible first | exact HB.out | apply below_alloc | apply pw_below_drewN | apply below_drew1 | refine below_set ?_ GE549.out) | exact HB.out)⟩
 ·rw [if_neg c5] at H
  have c5b0 : decide (t550 < 0) = false := decide_eq_false c5
  clear c5
  replace H := Option.bind_eq_some_iff.mp H
  obtain ⟨t551, A90, H⟩ := H
  replace H : (if t551 < 0 then (some true) else ((laws_toTree.f k a0_0 l0_1).bind fun bt552 => ((laws_toSpotS.f k l2).bind fun t556 => ((spec_ValidPacking.f k bt552.1 bt552.2 a1 t556).bind fun t559 => ((laws_toTree.f k a0_0 l0_1).bind fun bt560 => ((laws_toSpotS.f k l2).bind fun t565 => ((impl_ValidPacking.f k bt560.1 bt560.2 a1 t565).bind fun t568 => (if (t568 != t559) = true then (some false) else ((laws_toTree.f k a0_0 l0_1).bind fun bt569 => ((laws_eqTree.f k bt560.1 bt560.2 bt569.1 bt569.2).bind fun t573 => (if t573 = true then ((laws_toSpotS.f k l2).bind fun t574 => ((laws_eqSpotS.f k t565 t574).bind fun t577 => (if t577 = true then (some true) else (some false)))) else (some false)))))))))))) = some r := H
  have A9 := Aside0.mk A90
  clear A90
  by_cases c10 : t551 < 0
  ·rw [if_pos c10] at H
   have c10b0 : decide (t551 < 0) = true := decide_eq_true c10
   clear c10
   obtain rfl := Option.some.inj H
   go_enter Try.func9, Try.ntmps9
   go_wp2_with (first | ((with_reducible refine gate_dst (N := 3) rfl ?_); refine box_event ?hg (N := 3) ?hd (cs := #[.int .i64 a0_0, .slice A0_1 l0_1.length c0_1]) (t := 24) ?hr ?_; (case hd => rfl); (case hg => rfl); (case hr => first | (go_simp; done) | (go_simp; rfl)); intro gb549 hg w11 hbox hb; have n0_ := Aside0.mk (below_step (bl0_ HB.out) hb); have n1_ := Aside0.mk (hbox); have n2_ := Aside0.mk ((by rw [hg]; exact (below_size (bl0_ HB.out)) : w.heap.size ≤ gb549)); have n3_ := Aside0.mk ((by rw [hg]; exact (below_size (bl0_ HB.out)) : w.heap.size ≤ gb549)); clear HB; have HB := n0_; have BK549 := n1_; have GW549 := n2_; have GE549 := n3_; clear n0_ n1_ n2_ n3_; clear hb hbox hg; have hcz12_0 : w11.cell? ⟨gb549, 0, none⟩ = some (.int .i64 a0_0) := (blk_cell BK549.out 0).trans rfl; have hcz12_1 : w11.cell? ⟨gb549, 1, none⟩ = some (.slice A0_1 l0_1.length c0_1) := (blk_cell BK549.out 1).trans rfl; have hfz12_0 := blk_frozen BK549.out 0; have hfz12_1 := blk_frozen BK549.out 1) | ((with_reducible refine gate_callee (f := 14) rfl ?_); refine goesL_ (some 14) rfl rfl Try.func14 (by kernel_rfl) rfl #[.agg #[.int .i64 a0_0, .slice A0_1 l0_1.length c0_1], .int .i64 1048576] rfl mp_ ?_; (with_reducible refine (laws_szTree.calls a0_0 _ _ l0_1 1048576 t550 _ ?side1 ?side2 A4.out).mono ?_); (case side1 => repeat (first | exact (Kd.C_below HR0_1.out HB.out) | (with_reducible refine Kd.C_alloc ?_ _) | (with_reducible refine Kd.C_drewN ?_ _) | (with_reducible refine Kd.C_drew ?_))); (case side2 => exact HC0_1.out); rintro e w13 ⟨rfl, hb⟩; refine ⟨_, rfl, ?_⟩; have n0_ := Aside0.mk (blk_below (g := gb549) (o := .cells #[.int .i64 a0_0, .slice A0_1 l0_1.length c0_1] 24 (0, 0)) (bk_ BK549.out) hb); have n1_ := Aside0.mk (below_step (bl1_ HB.out GE549.out) hb); clear BK549; clear HB; have BK549 := n0_; have HB := n1_; clear n0_ n1_; (try clear hb); (try clear hb2); (try clear hk); (try clear hi)) | ((with_reducible refine gate_callee (f := 36) rfl ?_); refine goesL_ (some 19) rfl rfl Try.func36 (by kernel_rfl) rfl #[.slice A2 l2.length c2, .int .i64 t550] rfl mp_ ?_; (with_reducible refine (laws_szSpotS.calls _ _ l2 t550 t551 _ ?side1 ?side2 A9.out).mono ?_); (case side1 => repeat (first | exact (Kd.C_below HR2.out HB.out) | (with_reducible refine Kd.C_alloc ?_ _) | (with_reducible refine Kd.C_drewN ?_ _) | (with_reducible refine Kd.C_drew ?_))); (case side2 => exact HC2.out); rintro e w' ⟨rfl, ⟨nd, rfl⟩⟩; refine ⟨_, rfl, ?_⟩))
   go_ret
   exact ⟨by first | rfl | (simp [errW_none, errW_some] <;> rfl) | (simp [*, errW_none, errW_some] <;> rfl), by repeat (first | (with_reducible first | exact HB.out | apply below_alloc | apply pw_below_drewN | apply below_drew1 | refine below_set ?_ GE549.out) | exact HB.out)⟩
  ·rw [if_neg c10] at H
   have c10b0 : decide (t551 < 0) = false := decide_eq_false c10
   clear c10
   replace H := Option.bind_eq_some_iff.mp H
   obtain ⟨⟨t552, t553⟩, A140, H⟩ := H
   replace H : ((laws_toSpotS.f k l2).bind fun t556 => ((spec_ValidPacking.f k t552 t553 a1 t556).bind fun t559 => ((laws_toTree.f k a0_0 l0_1).bind fun bt560 => ((laws_toSpotS.f k l2).bind fun t565 => ((impl_ValidPacking.f k bt560.1 bt560.2 a1 t565).bind fun t568 => (if (t568 != t559) = true then (some false) else ((laws_toTree.f k a0_0 l0_1).bind fun bt569 => ((laws_eqTree.f k bt560.1 bt560.2 bt569.1 bt569.2).bind fun t573 => (if t573 = true then ((laws_toSpotS.f k l2).bind fun t574 => ((laws_eqSpotS.f k t565 t574).bind fun t577 => (if t577 = true then (some true) else (some false)))) else (some false)))))))))) = some r := H
   have A14 := Aside0.mk A140
   clear A140
   replace H := Option.bind_eq_some_iff.mp H
   obtain ⟨t556, A150, H⟩ := H
   replace H : ((spec_ValidPacking.f k t552 t553 a1 t556).bind fun t559 => ((laws_toTree.f k a0_0 l0_1).bind fun bt560 => ((laws_toSpotS.f k l2).bind fun t565 => ((impl_ValidPacking.f k bt560.1 bt560.2 a1 t565).bind fun t568 => (if (t568 != t559) = true then (some false) else ((laws_toTree.f k a0_0 l0_1).bind fun bt569 => ((laws_eqTree.f k bt560.1 bt560.2 bt569.1 bt569.2).bind fun t573 => (if t573 = true then ((laws_toSpotS.f k l2).bind fun t574 => ((laws_eqSpotS.f k t565 t574).bind fun t577 => (if t577 = true then (some true) else (some false)))) else (some false))))))))) = some r := H
   have A15 := Aside0.mk A150
   clear A150
   replace H := Option.bind_eq_some_iff.mp H
   obtain ⟨t559, A160, H⟩ := H
   replace H : ((laws_toTree.f k a0_0 l0_1).bind fun bt560 => ((laws_toSpotS.f k l2).bind fun t565 => ((impl_ValidPacking.f k bt560.1 bt560.2 a1 t565).bind fun t568 => (if (t568 != t559) = true then (some false) else ((laws_toTree.f k a0_0 l0_1).bind fun bt569 => ((laws_eqTree.f k bt560.1 bt560.2 bt569.1 bt569.2).bind fun t573 => (if t573 = true then ((laws_toSpotS.f k l2).bind fun t574 => ((laws_eqSpotS.f k t565 t574).bind fun t577 => (if t577 = true then (some true) else (some false)))) else (some false)))))))) = some r := H
   have A16 := Aside0.mk A160
   clear A160
   replace H := Option.bind_eq_some_iff.mp H
   obtain ⟨⟨t560, t561⟩, A170, H⟩ := H
   replace H : ((laws_toSpotS.f k l2).bind fun t565 => ((impl_ValidPacking.f k t560 t561 a1 t565).bind fun t568 => (if (t568 != t559) = true then (some false) else ((laws_toTree.f k a0_0 l0_1).bind fun bt569 => ((laws_eqTree.f k t560 t561 bt569.1 bt569.2).bind fun t573 => (if t573 = true then ((laws_toSpotS.f k l2).bind fun t574 => ((laws_eqSpotS.f k t565 t574).bind fun t577 => (if t577 = true then (some true) else (some false)))) else (some false))))))) = some r := H
   have A17 := Aside0.mk A170
   clear A170
   replace H := Option.bind_eq_some_iff.mp H
   obtain ⟨t565, A180, H⟩ := H
   replace H : ((impl_ValidPacking.f k t560 t561 a1 t565).bind fun t568 => (if (t568 != t559) = true then (some false) else ((laws_toTree.f k a0_0 l0_1).bind fun bt569 => ((laws_eqTree.f k t560 t561 bt569.1 bt569.2).bind fun t573 => (if t573 = true then ((laws_toSpotS.f k l2).bind fun t574 => ((laws_eqSpotS.f k t565 t574).bind fun t577 => (if t577 = true then (some true) else (some false)))) else (some false)))))) = some r := H
   have A18 := Aside0.mk A180
   clear A180
   replace H := Option.bind_eq_some_iff.mp H
   obtain ⟨t568, A190, H⟩ := H
   replace H : (if (t568 != t559) = true then (some false) else ((laws_toTree.f k a0_0 l0_1).bind fun bt569 => ((laws_eqTree.f k t560 t561 bt569.1 bt569.2).bind fun t573 => (if t573 = true then ((laws_toSpotS.f k l2).bind fun t574 => ((laws_eqSpotS.f k t565 t574).bind fun t577 => (if t577 = true then (some true) else (some false)))) else (some false))))) = some r := H
   have A19 := Aside0.mk A190
   clear A190
   by_cases c20 : (t568 != t559) = true
   ·rw [if_pos c20] at H
    have c20b0 : (t568 != t559) = true := c20
    (try (have c20b1 : decide (t568 = t559) = false := by simpa using c20))
    (try (have c20b2 : (t568 == t559) = false := by simpa using c20))
    (try (have c20b3 : ¬ (t568 = t559) := by simpa using c20))
    clear c20
    obtain rfl := Option.some.inj H
    go_enter Try.func9, Try.ntmps9
    go_wp2_with (first | ((with_reducible refine gate_dst (N := 3) rfl ?_); refine box_event ?hg (N := 3) ?hd (cs := #[.int .i64 a0_0, .slice A0_1 l0_1.length c0_1]) (t := 24) ?hr ?_; (case hd => rfl); (case hg => rfl); (case hr => first | (go_simp; done) | (go_simp; rfl)); intro gb549 hg w21 hbox hb; have n0_ := Aside0.mk (below_step (bl0_ HB.out) hb); have n1_ := Aside0.mk (hbox); have n2_ := Aside0.mk ((by rw [hg]; exact (below_size (bl0_ HB.out)) : w.heap.size ≤ gb549)); have n3_ := Aside0.mk ((by rw [hg]; exact (below_size (bl0_ HB.out)) : w.heap.size ≤ gb549)); clear HB; have HB := n0_; have BK549 := n1_; have GW549 := n2_; have GE549 := n3_; clear n0_ n1_ n2_ n3_; clear hb hbox hg; have hcz22_0 : w21.cell? ⟨gb549, 0, none⟩ = some (.int .i64 a0_0) := (blk_cell BK549.out 0).trans rfl; have hcz22_1 : w21.cell? ⟨gb549, 1, none⟩ = some (.slice A0_1 l0_1.length c0_1) := (blk_cell BK549.out 1).trans rfl; have hfz22_0 := blk_frozen BK549.out 0; have hfz22_1 := blk_frozen BK549.out 1) | ((with_reducible refine gate_callee (f := 14) rfl ?_); refine goesL_ (some 14) rfl rfl Try.func14 (by kernel_rfl) rfl #[.agg #[.int .i64 a0_0, .slice A0_1 l0_1.length c0_1], .int .i64 1048576] rfl mp_ ?_; (with_reducible refine (laws_szTree.calls a0_0 _ _ l0_1 1048576 t550 _ ?side1 ?side2 A4.out).mono ?_); (case side1 => repeat (first | exact (Kd.C_below HR0_1.out HB.out) | (with_reducible refine Kd.C_alloc ?_ _) | (with_reducible refine Kd.C_drewN ?_ _) | (with_reducible refine Kd.C_drew ?_))); (case side2 => exact HC0_1.out); rintro e w23 ⟨rfl, hb⟩; refine ⟨_, rfl, ?_⟩; have n0_ := Aside0.mk (blk_below (g := gb549) (o := .cells #[.int .i64 a0_0, .slice A0_1 l0_1.length c0_1] 24 (0, 0)) (bk_ BK549.out) hb); have n1_ := Aside0.mk (below_step (bl1_ HB.out GE549.out) hb); clear BK549; clear HB; have BK549 := n0_; have HB := n1_; clear n0_ n1_; (try clear hb); (try clear hb2); (try clear hk); (try clear hi)) | ((with_reducible refine gate_callee (f := 36) rfl ?_); refine goesL_ (some 19) rfl rfl Try.func36 (by kernel_rfl) rfl #[.slice A2 l2.length c2, .int .i64 t550] rfl mp_ ?_; (with_reducible refine (laws_szSpotS.calls _ _ l2 t550 t551 _ ?side1 ?side2 A9.out).mono ?_); (case side1 => repeat (first | exact (Kd.C_below HR2.out HB.out) | (with_reducible refine Kd.C_alloc ?_ _) | (with_reducible refine Kd.C_drewN ?_ _) | (with_reducible refine Kd.C_drew ?_))); (case side2 => exact HC2.out); rintro e w' ⟨rfl, ⟨nd, rfl⟩⟩; refine ⟨_, rfl, ?_⟩; (try (rw [drewN_self w23]; generalize hq_ : World.drewN w23 _ = w23; have n0_ : Aside0 (w23.heap[gb549]? = some (.cells #[.int .i64 a0_0, .slice A0_1 l0_1.length c0_1] 24 (0, 0))) := ⟨by rw [← hq_]; exact (bk_ BK549.out)⟩; have n1_ : Aside0 (Below w.heap.size w w23) := ⟨by rw [← hq_]; exact (bl1_ HB.out GE549.out)⟩; clear BK549 HB hq_; have BK549 := n0_; have HB := n1_; clear n0_ n1_)); have hcz24_0 : w23.cell? ⟨gb549, 0, none⟩ = some (.int .i64 a0_0) := (blk_cell BK549.out 0).trans rfl; have hcz24_1 : w23.cell? ⟨gb549, 1, none⟩ = some (.slice A0_1 l0_1.length c0_1) := (blk_cell BK549.out 1).trans rfl; have hfz24_0 := blk_frozen BK549.out 0; have hfz24_1 := blk_frozen BK549.out 1) | ((with_reducible refine gate_callee (f := 16) rfl ?_); refine goesL_ (some 23) rfl rfl Try.func16 (by kernel_rfl) rfl #[.agg #[.int .i64 a0_0, .slice A0_1 l0_1.length c0_1]] rfl mp_ ?_; (with_reducible refine (laws_toTree.calls k a0_0 _ _ l0_1 t552 t553 _ ?side1 ?side2 A14.out).mono ?_); (case side1 => repeat (first | exact (Kd.C_below HR0_1.out HB.out) | (with_reducible refine Kd.C_alloc ?_ _) | (with_reducible refine Kd.C_drewN ?_ _) | (with_reducible refine Kd.C_drew ?_))); (case side2 => exact HC0_1.out); rintro e w25 ⟨v554, rfl, ho0, hb⟩; refine ⟨_, rfl, ?_⟩; have n0_ := Aside0.mk (Kd.R_lower ho0 (below_size (bl1_ HB.out GE549.out))); have n1_ := Aside0.mk (blk_below (g := gb549) (o := .cells #[.int .i64 a0_0, .slice A0_1 l0_1.length c0_1] 24 (0, 0)) (bk_ BK549.out) hb); have n2_ := Aside0.mk (below_step (bl1_ HB.out GE549.out) hb); clear BK549; clear HB; have HO555 := n0_; have BK549 := n1_; have HB := n2_; clear n0_ n1_ n2_; (try clear hb); (try clear hb2); (try clear hk); (try clear hi); (try clear ho0)) | ((with_reducible refine gate_callee (f := 38) rfl ?_); refine goesL_ (some 26) rfl rfl Try.func38 (by kernel_rfl) rfl #[.slice A2 l2.length c2] rfl mp_ ?_; (with_reducible refine (laws_toSpotS.calls k _ _ l2 t556 _ ?side1 ?side2 A15.out).mono ?_); (case side1 => repeat (first | exact (Kd.C_below HR2.out HB.out) | (with_reducible refine Kd.C_alloc ?_ _) | (with_reducible refine Kd.C_drewN ?_ _) | (with_reducible refine Kd.C_drew ?_))); (case side2 => exact HC2.out); rintro e w26 ⟨v557, rfl, ho0, hb⟩; refine ⟨_, rfl, ?_⟩; have n0_ := Aside0.mk (Kd.R_below (ra_ HO555.out) hb); have n1_ := Aside0.mk (Kd.R_lower ho0 (below_size (bl1_ HB.out GE549.out))); have n2_ := Aside0.mk (blk_below (g := gb549) (o := .cells #[.int .i64 a0_0, .slice A0_1 l0_1.length c0_1] 24 (0, 0)) (bk_ BK549.out) hb); have n3_ := Aside0.mk (below_step (bl1_ HB.out GE549.out) hb); clear HO555; clear BK549; clear HB; have HO555 := n0_; have HO558 := n1_; have BK549 := n2_; have HB := n3_; clear n0_ n1_ n2_ n3_; (try clear hb); (try clear hb2); (try clear hk); (try clear hi); (try clear ho0); obtain ⟨Ao27, co27, eo27⟩ := Kd.R_slice HO555.out; subst eo27; obtain ⟨Ao28, co28, eo28⟩ := Kd.R_slice HO558.out; subst eo28) | ((with_reducible refine gate_callee (f := 37) rfl ?_); refine goesL_ (some 27) rfl rfl Try.func37 (by kernel_rfl) rfl #[.agg #[.int .i64 t552, .slice Ao27 t553.length co27], .int .i64 a1, .slice Ao28 t556.length co28] rfl mp_ ?_; (with_reducible refine (spec_ValidPacking.calls k t552 _ _ t553 a1 _ _ t556 t559 _ ?side1 ?side2 ?side3 ?side4 A16.out).mono ?_); (case side1 => repeat (first | exact (Kd.R_reads' HO555.out).2.2 | (with_reducible refine Kd.C_alloc ?_ _) | (with_reducible refine Kd.C_drewN ?_ _) | (with_reducible refine Kd.C_drew ?_))); (case side2 => exact (Kd.R_reads' HO555.out).2.1); (case side3 => repeat (first | exact (Kd.R_reads' HO558.out).2.2 | (with_reducible refine Kd.C_alloc ?_ _) | (with_reducible refine Kd.C_drewN ?_ _) | (with_reducible refine Kd.C_drew ?_))); (case side4 => exact (Kd.R_reads' HO558.out).2.1); rintro e w29 ⟨rfl, hb⟩; refine ⟨_, rfl, ?_⟩; have n0_ := Aside0.mk (Kd.R_below (ra_ HO555.out) hb); have n1_ := Aside0.mk (Kd.R_below (ra_ HO558.out) hb); have n2_ := Aside0.mk (blk_below (g := gb549) (o := .cells #[.int .i64 a0_0, .slice A0_1 l0_1.length c0_1] 24 (0, 0)) (bk_ BK549.out) hb); have n3_ := Aside0.mk (below_step (bl1_ HB.out GE549.out) hb); clear HO555; clear HO558; clear BK549; clear HB; have HO555 := n0_; have HO558 := n1_; have BK549 := n2_; have HB := n3_; clear n0_ n1_ n2_ n3_; (try clear hb); (try clear hb2); (try clear hk); (try clear hi); have hcz30_0 : w29.cell? ⟨gb549, 0, none⟩ = some (.int .i64 a0_0) := (blk_cell BK549.out 0).trans rfl; have hcz30_1 : w29.cell? ⟨gb549, 1, none⟩ = some (.slice A0_1 l0_1.length c0_1) := (blk_cell BK549.out 1).trans rfl; have hfz30_0 := blk_frozen BK549.out 0; have hfz30_1 := blk_frozen BK549.out 1) | ((with_reducible refine gate_callee (f := 16) rfl ?_); refine goesL_ (some 29) rfl rfl Try.func16 (by kernel_rfl) rfl #[.agg #[.int .i64 a0_0, .slice A0_1 l0_1.length c0_1]] rfl mp_ ?_; (with_reducible refine (laws_toTree.calls k a0_0 _ _ l0_1 t560 t561 _ ?side1 ?side2 A17.out).mono ?_); (case side1 => repeat (first | exact (Kd.C_below HR0_1.out HB.out) | (with_reducible refine Kd.C_alloc ?_ _) | (with_reducible refine Kd.C_drewN ?_ _) | (with_reducible refine Kd.C_drew ?_))); (case side2 => exact HC0_1.out); rintro e w31 ⟨v562, rfl, ho0, hb⟩; refine ⟨_, rfl, ?_⟩; have n0_ := Aside0.mk (Kd.R_elder' (ra_ HO555.out) (Kd.R_base ho0) hb); have n1_ := Aside0.mk (Kd.R_below (ra_ HO558.out) hb); have n2_ := Aside0.mk (Kd.R_lower (Kd.R_new' ho0 (Kd.R_lt (ra_ HO555.out))) (below_size (bl1_ HB.out GE549.out))); have n3_ := Aside0.mk (blk_below (g := gb549) (o := .cells #[.int .i64 a0_0, .slice A0_1 l0_1.length c0_1] 24 (0, 0)) (bk_ BK549.out) hb); have n4_ := Aside0.mk (below_step (bl1_ HB.out GE549.out) hb); clear HO555; clear HO558; clear BK549; clear HB; have HO555 := n0_; have HO558 := n1_; have HO563 := n2_; have BK549 := n3_; have HB := n4_; clear n0_ n1_ n2_ n3_ n4_; (try clear hb); (try clear hb2); (try clear hk); (try clear hi); (try clear ho0)) | ((with_reducible refine gate_dst (N := 9) rfl ?_); refine box_event ?hg (N := 9) ?hd (cs := #[.int .i64 0, .slice none 0 0]) (t := 29) ?hr ?_; (case hd => rfl); (case hg => rfl); (case hr => first | (go_simp; done) | (go_simp; rfl)); intro gb564 hg w32 hbox hb; have n0_ := Aside0.mk (Kd.R_below (ra_ HO555.out) hb); have n1_ := Aside0.mk (Kd.R_below (ra_ HO558.out) hb); have n2_ := Aside0.mk (Kd.R_below (ra_ HO563.out) hb); have n3_ := Aside0.mk (blk_below (g := gb549) (o := .cells #[.int .i64 a0_0, .slice A0_1 l0_1.length c0_1] 24 (0, 0)) (bk_ BK549.out) hb); have n4_ := Aside0.mk (below_step (bl1_ HB.out GE549.out) hb); have n5_ := Aside0.mk (hbox); have n6_ := Aside0.mk ((by rw [hg]; exact (below_size (bl1_ HB.out GE549.out)) : w.heap.size ≤ gb564)); have n7_ := Aside0.mk ((by rw [hg]; exact (below_size (bl1_ HB.out GE549.out)) : w.heap.size ≤ gb564)); have n8_ := Aside0.mk ((by rw [hg]; exact Nat.ne_of_lt (blk_lt (bk_ BK549.out)) : gb549 ≠ gb564)); have n9_ := Aside0.mk ((by rw [hg]; exact Nat.ne_of_gt (blk_lt (bk_ BK549.out)) : gb564 ≠ gb549)); clear HO555; clear HO558; clear HO563; clear BK549; clear HB; have HO555 := n0_; have HO558 := n1_; have HO563 := n2_; have BK549 := n3_; have HB := n4_; have BK564 := n5_; have GW564 := n6_; have GE564 := n7_; have NB549_564 := n8_; have NB564_549 := n9_; clear n0_ n1_ n2_ n3_ n4_ n5_ n6_ n7_ n8_ n9_; clear hb hbox hg; have hnb33 := NB564_549.out; have hnc33 := NB549_564.out; have hcz34_0 : w32.cell? ⟨gb564, 0, none⟩ = some (.int .i64 0) := (blk_cell BK564.out 0).trans rfl; have hcz34_1 : w32.cell? ⟨gb564, 1, none⟩ = some (.slice none 0 0) := (blk_cell BK564.out 1).trans rfl; have hfz34_0 := blk_frozen BK564.out 0; have hfz34_1 := blk_frozen BK564.out 1; obtain ⟨Ao35, co35, eo35⟩ := Kd.R_slice HO563.out; subst eo35) | ((with_reducible refine gate_callee (f := 38) rfl ?_); refine goesL_ (some 31) rfl rfl Try.func38 (by kernel_rfl) rfl #[.slice A2 l2.length c2] rfl mp_ ?_; (with_reducible refine (laws_toSpotS.calls k _ _ l2 t565 _ ?side1 ?side2 A18.out).mono ?_); (case side1 => exact Kd.C_below HR2.out (bl2_ HB.out GE549.out GE564.out)); (case side2 => exact HC2.out); rintro e w36 ⟨v566, rfl, ho0, hb⟩; refine ⟨_, rfl, ?_⟩; have n0_ := Aside0.mk (Kd.R_below (by (with_reducible repeat (first | apply Kd.R_alloc | apply Kd.R_drewN | apply Kd.R_drew)); exact (Kd.R_mono (Kd.R_far (p := ⟨gb564, 1, none⟩) (Kd.R_far (p := ⟨gb564, 0, none⟩) (Kd.R_types HO555.out BK564.out (by decide)) (fun _ hk => hk.2) (.int .i64 t560)) (fun _ hk => hk.2) (.slice Ao35 t561.length co35)) (fun _ h_ => h_.1))) hb); have n1_ := Aside0.mk (Kd.R_elder' (by (with_reducible repeat (first | apply Kd.R_alloc | apply Kd.R_drewN | apply Kd.R_drew)); exact (Kd.R_mono (Kd.R_far (p := ⟨gb564, 1, none⟩) (Kd.R_far (p := ⟨gb564, 0, none⟩) (Kd.R_types HO558.out BK564.out (by decide)) (fun _ hk => hk.2) (.int .i64 t560)) (fun _ hk => hk.2) (.slice Ao35 t561.length co35)) (fun _ h_ => h_.1))) (Kd.R_base ho0) hb); have n2_ := Aside0.mk (Kd.R_below (by (with_reducible repeat (first | apply Kd.R_alloc | apply Kd.R_drewN | apply Kd.R_drew)); exact (Kd.R_mono (Kd.R_far (p := ⟨gb564, 1, none⟩) (Kd.R_far (p := ⟨gb564, 0, none⟩) (Kd.R_types HO563.out BK564.out (by decide)) (fun _ hk => hk.2) (.int .i64 t560)) (fun _ hk => hk.2) (.slice Ao35 t561.length co35)) (fun _ h_ => h_.1))) hb); have n3_ := Aside0.mk (Kd.R_lower (Kd.R_new' ho0 (Kd.R_lt (by (with_reducible repeat (first | apply Kd.R_alloc | apply Kd.R_drewN | apply Kd.R_drew)); exact (Kd.R_mono (Kd.R_far (p := ⟨gb564, 1, none⟩) (Kd.R_far (p := ⟨gb564, 0, none⟩) (Kd.R_types HO558.out BK564.out (by decide)) (fun _ hk => hk.2) (.int .i64 t560)) (fun _ hk => hk.2) (.slice Ao35 t561.length co35)) (fun _ h_ => h_.1))))) (below_size (bl2_ HB.out GE549.out GE564.out))); have n4_ := Aside0.mk (blk_below (g := gb549) (o := .cells #[.int .i64 a0_0, .slice A0_1 l0_1.length c0_1] 24 (0, 0)) (by (with_reducible repeat (first | refine blk_drewN ?_ _ | refine blk_drew ?_ | refine blk_alloc ?_ _)); refine blk_far ?_ NB549_564.out _; (with_reducible repeat (first | refine blk_drewN ?_ _ | refine blk_drew ?_ | refine blk_alloc ?_ _)); refine blk_far ?_ NB549_564.out _; (with_reducible repeat (first | refine blk_drewN ?_ _ | refine blk_drew ?_ | refine blk_alloc ?_ _)); exact BK549.out) hb); have n5_ := Aside0.mk (blk_below (g := gb564) (o := .cells #[.int .i64 t560, .slice Ao35 t561.length co35] 29 (0, 0)) (by (with_reducible repeat (first | refine blk_drewN ?_ _ | refine blk_drew ?_ | refine blk_alloc ?_ _)); refine blk_put (cs := #[.int .i64 t560, .slice none 0 0]) ?_ 1 _ rfl; (with_reducible repeat (first | refine blk_drewN ?_ _ | refine blk_drew ?_ | refine blk_alloc ?_ _)); refine blk_put (cs := #[.int .i64 0, .slice none 0 0]) ?_ 0 _ rfl; (with_reducible repeat (first | refine blk_drewN ?_ _ | refine blk_drew ?_ | refine blk_alloc ?_ _)); exact BK564.out) hb); have n6_ := Aside0.mk (below_step (bl2_ HB.out GE549.out GE564.out) hb); clear HO555; clear HO558; clear HO563; clear BK549; clear BK564; clear HB; have HO555 := n0_; have HO558 := n1_; have HO563 := n2_; have HO567 := n3_; have BK549 := n4_; have BK564 := n5_; have HB := n6_; clear n0_ n1_ n2_ n3_ n4_ n5_ n6_; (try clear hb); (try clear hb2); (try clear hk); (try clear hi); (try clear ho0); have hcz37_0 : w36.cell? ⟨gb564, 0, none⟩ = some (.int .i64 t560) := (blk_cell BK564.out 0).trans rfl; have hcz37_1 : w36.cell? ⟨gb564, 1, none⟩ = some (.slice Ao35 t561.length co35) := (blk_cell BK564.out 1).trans rfl; have hfz37_0 := blk_frozen BK564.out 0; have hfz37_1 := blk_frozen BK564.out 1; obtain ⟨Ao38, co38, eo38⟩ := Kd.R_slice HO567.out; subst eo38) | ((with_reducible refine gate_callee (f := 39) rfl ?_); refine goesL_ (some 35) rfl rfl Try.func39 (by kernel_rfl) rfl #[.agg #[.int .i64 t560, .slice Ao35 t561.length co35], .int .i64 a1, .slice Ao38 t565.length co38] rfl mp_ ?_; (with_reducible refine (impl_ValidPacking.calls k t560 _ _ t561 a1 _ _ t565 t568 _ ?side1 ?side2 ?side3 ?side4 A19.out).mono ?_); (case side1 => repeat (first | exact (Kd.R_reads' HO563.out).2.2 | (with_reducible refine Kd.C_alloc ?_ _) | (with_reducible refine Kd.C_drewN ?_ _) | (with_reducible refine Kd.C_drew ?_))); (case side2 => exact (Kd.R_reads' HO563.out).2.1); (case side3 => repeat (first | exact (Kd.R_reads' HO567.out).2.2 | (with_reducible refine Kd.C_alloc ?_ _) | (with_reducible refine Kd.C_drewN ?_ _) | (with_reducible refine Kd.C_drew ?_))); (case side4 => exact (Kd.R_reads' HO567.out).2.1); rintro e w39 ⟨rfl, hb⟩; refine ⟨_, rfl, ?_⟩; have n0_ := Aside0.mk (Kd.R_below (ra_ HO555.out) hb); have n1_ := Aside0.mk (Kd.R_below (ra_ HO558.out) hb); have n2_ := Aside0.mk (Kd.R_below (ra_ HO563.out) hb); have n3_ := Aside0.mk (Kd.R_below (ra_ HO567.out) hb); have n4_ := Aside0.mk (blk_below (g := gb549) (o := .cells #[.int .i64 a0_0, .slice A0_1 l0_1.length c0_1] 24 (0, 0)) (bk_ BK549.out) hb); have n5_ := Aside0.mk (blk_below (g := gb564) (o := .cells #[.int .i64 t560, .slice Ao35 t561.length co35] 29 (0, 0)) (bk_ BK564.out) hb); have n6_ := Aside0.mk (below_step (bl2_ HB.out GE549.out GE564.out) hb); clear HO555; clear HO558; clear HO563; clear HO567; clear BK549; clear BK564; clear HB; have HO555 := n0_; have HO558 := n1_; have HO563 := n2_; have HO567 := n3_; have BK549 := n4_; have BK564 := n5_; have HB := n6_; clear n0_ n1_ n2_ n3_ n4_ n5_ n6_; (try clear hb); (try clear hb2); (try clear hk); (try clear hi)))
    go_ret
    exact ⟨by first | rfl | (simp [errW_none, errW_some] <;> rfl) | (simp [*, errW_none, errW_some] <;> rfl), by repeat (first | (with_reducible first | exact HB.out | apply below_alloc | apply pw_below_drewN | apply below_drew1 | refine below_set ?_ GE549.out | refine below_set ?_ GE564.out) | exact HB.out)⟩
   ·rw [if_neg c20] at H
    have c20b0 : (t568 != t559) = false := by simpa using c20
    (try (have c20b1 : decide (t568 = t559) = true := by simpa using c20))
    (try (have c20b2 : (t568 == t559) = true := by simpa using c20))
    clear c20
    replace H := Option.bind_eq_some_iff.mp H
    obtain ⟨⟨t569, t570⟩, A400, H⟩ := H
    replace H : ((laws_eqTree.f k t560 t561 t569 t570).bind fun t573 => (if t573 = true then ((laws_toSpotS.f k l2).bind fun t574 => ((laws_eqSpotS.f k t565 t574).bind fun t577 => (if t577 = true then (some true) else (some false)))) else (some false))) = some r := H
    have A40 := Aside0.mk A400
    clear A400
    replace H := Option.bind_eq_some_iff.mp H
    obtain ⟨t573, A410, H⟩ := H
    replace H : (if t573 = true then ((laws_toSpotS.f k l2).bind fun t574 => ((laws_eqSpotS.f k t565 t574).bind fun t577 => (if t577 = true then (some true) else (some false)))) else (some false)) = some r := H
    have A41 := Aside0.mk A410
    clear A410
    by_cases c42 : t573 = true
    ·subst c42
     have H1 : ((laws_toSpotS.f k l2).bind fun t574 => ((laws_eqSpotS.f k t565 t574).bind fun t577 => (if t577 = true then (some true) else (some false)))) = some r := by rw [if_pos rfl] at H; exact H
     clear H
     have H := H1
     clear H1
     replace H := Option.bind_eq_some_iff.mp H
     obtain ⟨t574, A430, H⟩ := H
     replace H : ((laws_eqSpotS.f k t565 t574).bind fun t577 => (if t577 = true then (some true) else (some false))) = some r := H
     have A43 := Aside0.mk A430
     clear A430
     replace H := Option.bind_eq_some_iff.mp H
     obtain ⟨t577, A440, H⟩ := H
     replace H : (if t577 = true then (some true) else (some false)) = some r := H
     have A44 := Aside0.mk A440
     clear A440
     by_cases c45 : t577 = true
     ·subst c45
      have H1 : (some true) = some r := by rw [if_pos rfl] at H; exact H
      clear H
      have H := H1
      clear H1
      obtain rfl := Option.some.inj H
      go_enter Try.func9, Try.ntmps9
      try go_wp2_with (first | ((with_reducible refine gate_dst (N := 3) rfl ?_); refine box_event ?hg (N := 3) ?hd (cs := #[.int .i64 a0_0, .slice A0_1 l0_1.length c0_1]) (t := 24) ?hr ?_; (case hd => rfl); (case hg => rfl); (case hr => first | (go_simp; done) | (go_simp; rfl)); intro gb549 hg w46 hbox hb; have n0_ := Aside0.mk (below_step (bl0_ HB.out) hb); have n1_ := Aside0.mk (hbox); have n2_ := Aside0.mk ((by rw [hg]; exact (below_size (bl0_ HB.out)) : w.heap.size ≤ gb549)); have n3_ := Aside0.mk ((by rw [hg]; exact (below_size (bl0_ HB.out)) : w.heap.size ≤ gb549)); clear HB; have HB := n0_; have BK549 := n1_; have GW549 := n2_; have GE549 := n3_; clear n0_ n1_ n2_ n3_; clear hb hbox hg; have hcz47_0 : w46.cell? ⟨gb549, 0, none⟩ = some (.int .i64 a0_0) := (blk_cell BK549.out 0).trans rfl; have hcz47_1 : w46.cell? ⟨gb549, 1, none⟩ = some (.slice A0_1 l0_1.length c0_1) := (blk_cell BK549.out 1).trans rfl; have hfz47_0 := blk_frozen BK549.out 0; have hfz47_1 := blk_frozen BK549.out 1) | ((with_reducible refine gate_callee (f := 14) rfl ?_); refine goesL_ (some 14) rfl rfl Try.func14 (by kernel_rfl) rfl #[.agg #[.int .i64 a0_0, .slice A0_1 l0_1.length c0_1], .int .i64 1048576] rfl mp_ ?_; (with_reducible refine (laws_szTree.calls a0_0 _ _ l0_1 1048576 t550 _ ?side1 ?side2 A4.out).mono ?_); (case side1 => repeat (first | exact (Kd.C_below HR0_1.out HB.out) | (with_reducible refine Kd.C_alloc ?_ _) | (with_reducible refine Kd.C_drewN ?_ _) | (with_reducible refine Kd.C_drew ?_))); (case side2 => exact HC0_1.out); rintro e w48 ⟨rfl, hb⟩; refine ⟨_, rfl, ?_⟩; have n0_ := Aside0.mk (blk_below (g := gb549) (o := .cells #[.int .i64 a0_0, .slice A0_1 l0_1.length c0_1] 24 (0, 0)) (bk_ BK549.out) hb); have n1_ := Aside0.mk (below_step (bl1_ HB.out GE549.out) hb); clear BK549; clear HB; have BK549 := n0_; have HB := n1_; clear n0_ n1_; (try clear hb); (try clear hb2); (try clear hk); (try clear hi)) | ((with_reducible refine gate_callee (f := 36) rfl ?_); refine goesL_ (some 19) rfl rfl Try.func36 (by kernel_rfl) rfl #[.slice A2 l2.length c2, .int .i64 t550] rfl mp_ ?_; (with_reducible refine (laws_szSpotS.calls _ _ l2 t550 t551 _ ?side1 ?side2 A9.out).mono ?_); (case side1 => repeat (first | exact (Kd.C_below HR2.out HB.out) | (with_reducible refine Kd.C_alloc ?_ _) | (with_reducible refine Kd.C_drewN ?_ _) | (with_reducible refine Kd.C_drew ?_))); (case side2 => exact HC2.out); rintro e w' ⟨rfl, ⟨nd, rfl⟩⟩; refine ⟨_, rfl, ?_⟩; (try (rw [drewN_self w48]; generalize hq_ : World.drewN w48 _ = w48; have n0_ : Aside0 (w48.heap[gb549]? = some (.cells #[.int .i64 a0_0, .slice A0_1 l0_1.length c0_1] 24 (0, 0))) := ⟨by rw [← hq_]; exact (bk_ BK549.out)⟩; have n1_ : Aside0 (Below w.heap.size w w48) := ⟨by rw [← hq_]; exact (bl1_ HB.out GE549.out)⟩; clear BK549 HB hq_; have BK549 := n0_; have HB := n1_; clear n0_ n1_)); have hcz49_0 : w48.cell? ⟨gb549, 0, none⟩ = some (.int .i64 a0_0) := (blk_cell BK549.out 0).trans rfl; have hcz49_1 : w48.cell? ⟨gb549, 1, none⟩ = some (.slice A0_1 l0_1.length c0_1) := (blk_cell BK549.out 1).trans rfl; have hfz49_0 := blk_frozen BK549.out 0; have hfz49_1 := blk_frozen BK549.out 1) | ((with_reducible refine gate_callee (f := 16) rfl ?_); refine goesL_ (some 23) rfl rfl Try.func16 (by kernel_rfl) rfl #[.agg #[.int .i64 a0_0, .slice A0_1 l0_1.length c0_1]] rfl mp_ ?_; (with_reducible refine (laws_toTree.calls k a0_0 _ _ l0_1 t552 t553 _ ?side1 ?side2 A14.out).mono ?_); (case side1 => repeat (first | exact (Kd.C_below HR0_1.out HB.out) | (with_reducible refine Kd.C_alloc ?_ _) | (with_reducible refine Kd.C_drewN ?_ _) | (with_reducible refine Kd.C_drew ?_))); (case side2 => exact HC0_1.out); rintro e w50 ⟨v554, rfl, ho0, hb⟩; refine ⟨_, rfl, ?_⟩; have n0_ := Aside0.mk (Kd.R_lower ho0 (below_size (bl1_ HB.out GE549.out))); have n1_ := Aside0.mk (blk_below (g := gb549) (o := .cells #[.int .i64 a0_0, .slice A0_1 l0_1.length c0_1] 24 (0, 0)) (bk_ BK549.out) hb); have n2_ := Aside0.mk (below_step (bl1_ HB.out GE549.out) hb); clear BK549; clear HB; have HO555 := n0_; have BK549 := n1_; have HB := n2_; clear n0_ n1_ n2_; (try clear hb); (try clear hb2); (try clear hk); (try clear hi); (try clear ho0)) | ((with_reducible refine gate_callee (f := 38) rfl ?_); refine goesL_ (some 26) rfl rfl Try.func38 (by kernel_rfl) rfl #[.slice A2 l2.length c2] rfl mp_ ?_; (with_reducible refine (laws_toSpotS.calls k _ _ l2 t556 _ ?side1 ?side2 A15.out).mono ?_); (case side1 => repeat (first | exact (Kd.C_below HR2.out HB.out) | (with_reducible refine Kd.C_alloc ?_ _) | (with_reducible refine Kd.C_drewN ?_ _) | (with_reducible refine Kd.C_drew ?_))); (case side2 => exact HC2.out); rintro e w51 ⟨v557, rfl, ho0, hb⟩; refine ⟨_, rfl, ?_⟩; have n0_ := Aside0.mk (Kd.R_below (ra_ HO555.out) hb); have n1_ := Aside0.mk (Kd.R_lower ho0 (below_size (bl1_ HB.out GE549.out))); have n2_ := Aside0.mk (blk_below (g := gb549) (o := .cells #[.int .i64 a0_0, .slice A0_1 l0_1.length c0_1] 24 (0, 0)) (bk_ BK549.out) hb); have n3_ := Aside0.mk (below_step (bl1_ HB.out GE549.out) hb); clear HO555; clear BK549; clear HB; have HO555 := n0_; have HO558 := n1_; have BK549 := n2_; have HB := n3_; clear n0_ n1_ n2_ n3_; (try clear hb); (try clear hb2); (try clear hk); (try clear hi); (try clear ho0); obtain ⟨Ao52, co52, eo52⟩ := Kd.R_slice HO555.out; subst eo52; obtain ⟨Ao53, co53, eo53⟩ := Kd.R_slice HO558.out; subst eo53) | ((with_reducible refine gate_callee (f := 37) rfl ?_); refine goesL_ (some 27) rfl rfl Try.func37 (by kernel_rfl) rfl #[.agg #[.int .i64 t552, .slice Ao52 t553.length co52], .int .i64 a1, .slice Ao53 t556.length co53] rfl mp_ ?_; (with_reducible refine (spec_ValidPacking.calls k t552 _ _ t553 a1 _ _ t556 t559 _ ?side1 ?side2 ?side3 ?side4 A16.out).mono ?_); (case side1 => repeat (first | exact (Kd.R_reads' HO555.out).2.2 | (with_reducible refine Kd.C_alloc ?_ _) | (with_reducible refine Kd.C_drewN ?_ _) | (with_reducible refine Kd.C_drew ?_))); (case side2 => exact (Kd.R_reads' HO555.out).2.1); (case side3 => repeat (first | exact (Kd.R_reads' HO558.out).2.2 | (with_reducible refine Kd.C_alloc ?_ _) | (with_reducible refine Kd.C_drewN ?_ _) | (with_reducible refine Kd.C_drew ?_))); (case side4 => exact (Kd.R_reads' HO558.out).2.1); rintro e w54 ⟨rfl, hb⟩; refine ⟨_, rfl, ?_⟩; have n0_ := Aside0.mk (Kd.R_below (ra_ HO555.out) hb); have n1_ := Aside0.mk (Kd.R_below (ra_ HO558.out) hb); have n2_ := Aside0.mk (blk_below (g := gb549) (o := .cells #[.int .i64 a0_0, .slice A0_1 l0_1.length c0_1] 24 (0, 0)) (bk_ BK549.out) hb); have n3_ := Aside0.mk (below_step (bl1_ HB.out GE549.out) hb); clear HO555; clear HO558; clear BK549; clear HB; have HO555 := n0_; have HO558 := n1_; have BK549 := n2_; have HB := n3_; clear n0_ n1_ n2_ n3_; (try clear hb); (try clear hb2); (try clear hk); (try clear hi); have hcz55_0 : w54.cell? ⟨gb549, 0, none⟩ = some (.int .i64 a0_0) := (blk_cell BK549.out 0).trans rfl; have hcz55_1 : w54.cell? ⟨gb549, 1, none⟩ = some (.slice A0_1 l0_1.length c0_1) := (blk_cell BK549.out 1).trans rfl; have hfz55_0 := blk_frozen BK549.out 0; have hfz55_1 := blk_frozen BK549.out 1) | ((with_reducible refine gate_callee (f := 16) rfl ?_); refine goesL_ (some 29) rfl rfl Try.func16 (by kernel_rfl) rfl #[.agg #[.int .i64 a0_0, .slice A0_1 l0_1.length c0_1]] rfl mp_ ?_; (with_reducible refine (laws_toTree.calls k a0_0 _ _ l0_1 t560 t561 _ ?side1 ?side2 A17.out).mono ?_); (case side1 => repeat (first | exact (Kd.C_below HR0_1.out HB.out) | (with_reducible refine Kd.C_alloc ?_ _) | (with_reducible refine Kd.C_drewN ?_ _) | (with_reducible refine Kd.C_drew ?_))); (case side2 => exact HC0_1.out); rintro e w56 ⟨v562, rfl, ho0, hb⟩; refine ⟨_, rfl, ?_⟩; have n0_ := Aside0.mk (Kd.R_elder' (ra_ HO555.out) (Kd.R_base ho0) hb); have n1_ := Aside0.mk (Kd.R_below (ra_ HO558.out) hb); have n2_ := Aside0.mk (Kd.R_lower (Kd.R_new' ho0 (Kd.R_lt (ra_ HO555.out))) (below_size (bl1_ HB.out GE549.out))); have n3_ := Aside0.mk (blk_below (g := gb549) (o := .cells #[.int .i64 a0_0, .slice A0_1 l0_1.length c0_1] 24 (0, 0)) (bk_ BK549.out) hb); have n4_ := Aside0.mk (below_step (bl1_ HB.out GE549.out) hb); clear HO555; clear HO558; clear BK549; clear HB; have HO555 := n0_; have HO558 := n1_; have HO563 := n2_; have BK549 := n3_; have HB := n4_; clear n0_ n1_ n2_ n3_ n4_; (try clear hb); (try clear hb2); (try clear hk); (try clear hi); (try clear ho0)) | ((with_reducible refine gate_dst (N := 9) rfl ?_); refine box_event ?hg (N := 9) ?hd (cs := #[.int .i64 0, .slice none 0 0]) (t := 29) ?hr ?_; (case hd => rfl); (case hg => rfl); (case hr => first | (go_simp; done) | (go_simp; rfl)); intro gb564 hg w57 hbox hb; have n0_ := Aside0.mk (Kd.R_below (ra_ HO555.out) hb); have n1_ := Aside0.mk (Kd.R_below (ra_ HO558.out) hb); have n2_ := Aside0.mk (Kd.R_below (ra_ HO563.out) hb); have n3_ := Aside0.mk (blk_below (g := gb549) (o := .cells #[.int .i64 a0_0, .slice A0_1 l0_1.length c0_1] 24 (0, 0)) (bk_ BK549.out) hb); have n4_ := Aside0.mk (below_step (bl1_ HB.out GE549.out) hb); have n5_ := Aside0.mk (hbox); have n6_ := Aside0.mk ((by rw [hg]; exact (below_size (bl1_ HB.out GE549.out)) : w.heap.size ≤ gb564)); have n7_ := Aside0.mk ((by rw [hg]; exact (below_size (bl1_ HB.out GE549.out)) : w.heap.size ≤ gb564)); have n8_ := Aside0.mk ((by rw [hg]; exact Nat.ne_of_lt (blk_lt (bk_ BK549.out)) : gb549 ≠ gb564)); have n9_ := Aside0.mk ((by rw [hg]; exact Nat.ne_of_gt (blk_lt (bk_ BK549.out)) : gb564 ≠ gb549)); clear HO555; clear HO558; clear HO563; clear BK549; clear HB; have HO555 := n0_; have HO558 := n1_; have HO563 := n2_; have BK549 := n3_; have HB := n4_; have BK564 := n5_; have GW564 := n6_; have GE564 := n7_; have NB549_564 := n8_; have NB564_549 := n9_; clear n0_ n1_ n2_ n3_ n4_ n5_ n6_ n7_ n8_ n9_; clear hb hbox hg; have hnb58 := NB564_549.out; have hnc58 := NB549_564.out; have hcz59_0 : w57.cell? ⟨gb564, 0, none⟩ = some (.int .i64 0) := (blk_cell BK564.out 0).trans rfl; have hcz59_1 : w57.cell? ⟨gb564, 1, none⟩ = some (.slice none 0 0) := (blk_cell BK564.out 1).trans rfl; have hfz59_0 := blk_frozen BK564.out 0; have hfz59_1 := blk_frozen BK564.out 1; obtain ⟨Ao60, co60, eo60⟩ := Kd.R_slice HO563.out; subst eo60) | ((with_reducible refine gate_callee (f := 38) rfl ?_); refine goesL_ (some 31) rfl rfl Try.func38 (by kernel_rfl) rfl #[.slice A2 l2.length c2] rfl mp_ ?_; (with_reducible refine (laws_toSpotS.calls k _ _ l2 t565 _ ?side1 ?side2 A18.out).mono ?_); (case side1 => exact Kd.C_below HR2.out (bl2_ HB.out GE549.out GE564.out)); (case side2 => exact HC2.out); rintro e w61 ⟨v566, rfl, ho0, hb⟩; refine ⟨_, rfl, ?_⟩; have n0_ := Aside0.mk (Kd.R_below (by (with_reducible repeat (first | apply Kd.R_alloc | apply Kd.R_drewN | apply Kd.R_drew)); exact (Kd.R_mono (Kd.R_far (p := ⟨gb564, 1, none⟩) (Kd.R_far (p := ⟨gb564, 0, none⟩) (Kd.R_types HO555.out BK564.out (by decide)) (fun _ hk => hk.2) (.int .i64 t560)) (fun _ hk => hk.2) (.slice Ao60 t561.length co60)) (fun _ h_ => h_.1))) hb); have n1_ := Aside0.mk (Kd.R_elder' (by (with_reducible repeat (first | apply Kd.R_alloc | apply Kd.R_drewN | apply Kd.R_drew)); exact (Kd.R_mono (Kd.R_far (p := ⟨gb564, 1, none⟩) (Kd.R_far (p := ⟨gb564, 0, none⟩) (Kd.R_types HO558.out BK564.out (by decide)) (fun _ hk => hk.2) (.int .i64 t560)) (fun _ hk => hk.2) (.slice Ao60 t561.length co60)) (fun _ h_ => h_.1))) (Kd.R_base ho0) hb); have n2_ := Aside0.mk (Kd.R_below (by (with_reducible repeat (first | apply Kd.R_alloc | apply Kd.R_drewN | apply Kd.R_drew)); exact (Kd.R_mono (Kd.R_far (p := ⟨gb564, 1, none⟩) (Kd.R_far (p := ⟨gb564, 0, none⟩) (Kd.R_types HO563.out BK564.out (by decide)) (fun _ hk => hk.2) (.int .i64 t560)) (fun _ hk => hk.2) (.slice Ao60 t561.length co60)) (fun _ h_ => h_.1))) hb); have n3_ := Aside0.mk (Kd.R_lower (Kd.R_new' ho0 (Kd.R_lt (by (with_reducible repeat (first | apply Kd.R_alloc | apply Kd.R_drewN | apply Kd.R_drew)); exact (Kd.R_mono (Kd.R_far (p := ⟨gb564, 1, none⟩) (Kd.R_far (p := ⟨gb564, 0, none⟩) (Kd.R_types HO558.out BK564.out (by decide)) (fun _ hk => hk.2) (.int .i64 t560)) (fun _ hk => hk.2) (.slice Ao60 t561.length co60)) (fun _ h_ => h_.1))))) (below_size (bl2_ HB.out GE549.out GE564.out))); have n4_ := Aside0.mk (blk_below (g := gb549) (o := .cells #[.int .i64 a0_0, .slice A0_1 l0_1.length c0_1] 24 (0, 0)) (by (with_reducible repeat (first | refine blk_drewN ?_ _ | refine blk_drew ?_ | refine blk_alloc ?_ _)); refine blk_far ?_ NB549_564.out _; (with_reducible repeat (first | refine blk_drewN ?_ _ | refine blk_drew ?_ | refine blk_alloc ?_ _)); refine blk_far ?_ NB549_564.out _; (with_reducible repeat (first | refine blk_drewN ?_ _ | refine blk_drew ?_ | refine blk_alloc ?_ _)); exact BK549.out) hb); have n5_ := Aside0.mk (blk_below (g := gb564) (o := .cells #[.int .i64 t560, .slice Ao60 t561.length co60] 29 (0, 0)) (by (with_reducible repeat (first | refine blk_drewN ?_ _ | refine blk_drew ?_ | refine blk_alloc ?_ _)); refine blk_put (cs := #[.int .i64 t560, .slice none 0 0]) ?_ 1 _ rfl; (with_reducible repeat (first | refine blk_drewN ?_ _ | refine blk_drew ?_ | refine blk_alloc ?_ _)); refine blk_put (cs := #[.int .i64 0, .slice none 0 0]) ?_ 0 _ rfl; (with_reducible repeat (first | refine blk_drewN ?_ _ | refine blk_drew ?_ | refine blk_alloc ?_ _)); exact BK564.out) hb); have n6_ := Aside0.mk (below_step (bl2_ HB.out GE549.out GE564.out) hb); clear HO555; clear HO558; clear HO563; clear BK549; clear BK564; clear HB; have HO555 := n0_; have HO558 := n1_; have HO563 := n2_; have HO567 := n3_; have BK549 := n4_; have BK564 := n5_; have HB := n6_; clear n0_ n1_ n2_ n3_ n4_ n5_ n6_; (try clear hb); (try clear hb2); (try clear hk); (try clear hi); (try clear ho0); have hcz62_0 : w61.cell? ⟨gb564, 0, none⟩ = some (.int .i64 t560) := (blk_cell BK564.out 0).trans rfl; have hcz62_1 : w61.cell? ⟨gb564, 1, none⟩ = some (.slice Ao60 t561.length co60) := (blk_cell BK564.out 1).trans rfl; have hfz62_0 := blk_frozen BK564.out 0; have hfz62_1 := blk_frozen BK564.out 1; obtain ⟨Ao63, co63, eo63⟩ := Kd.R_slice HO567.out; subst eo63) | ((with_reducible refine gate_callee (f := 39) rfl ?_); refine goesL_ (some 35) rfl rfl Try.func39 (by kernel_rfl) rfl #[.agg #[.int .i64 t560, .slice Ao60 t561.length co60], .int .i64 a1, .slice Ao63 t565.length co63] rfl mp_ ?_; (with_reducible refine (impl_ValidPacking.calls k t560 _ _ t561 a1 _ _ t565 t568 _ ?side1 ?side2 ?side3 ?side4 A19.out).mono ?_); (case side1 => repeat (first | exact (Kd.R_reads' HO563.out).2.2 | (with_reducible refine Kd.C_alloc ?_ _) | (with_reducible refine Kd.C_drewN ?_ _) | (with_reducible refine Kd.C_drew ?_))); (case side2 => exact (Kd.R_reads' HO563.out).2.1); (case side3 => repeat (first | exact (Kd.R_reads' HO567.out).2.2 | (with_reducible refine Kd.C_alloc ?_ _) | (with_reducible refine Kd.C_drewN ?_ _) | (with_reducible refine Kd.C_drew ?_))); (case side4 => exact (Kd.R_reads' HO567.out).2.1); rintro e w64 ⟨rfl, hb⟩; refine ⟨_, rfl, ?_⟩; have n0_ := Aside0.mk (Kd.R_below (ra_ HO555.out) hb); have n1_ := Aside0.mk (Kd.R_below (ra_ HO558.out) hb); have n2_ := Aside0.mk (Kd.R_below (ra_ HO563.out) hb); have n3_ := Aside0.mk (Kd.R_below (ra_ HO567.out) hb); have n4_ := Aside0.mk (blk_below (g := gb549) (o := .cells #[.int .i64 a0_0, .slice A0_1 l0_1.length c0_1] 24 (0, 0)) (bk_ BK549.out) hb); have n5_ := Aside0.mk (blk_below (g := gb564) (o := .cells #[.int .i64 t560, .slice Ao60 t561.length co60] 29 (0, 0)) (bk_ BK564.out) hb); have n6_ := Aside0.mk (below_step (bl2_ HB.out GE549.out GE564.out) hb); clear HO555; clear HO558; clear HO563; clear HO567; clear BK549; clear BK564; clear HB; have HO555 := n0_; have HO558 := n1_; have HO563 := n2_; have HO567 := n3_; have BK549 := n4_; have BK564 := n5_; have HB := n6_; clear n0_ n1_ n2_ n3_ n4_ n5_ n6_; (try clear hb); (try clear hb2); (try clear hk); (try clear hi)))
      have n0_ := Aside0.mk (Kd.R_drew HO555.out)
      have n1_ := Aside0.mk (Kd.R_drew HO558.out)
      have n2_ := Aside0.mk (Kd.R_drew HO563.out)
      have n3_ := Aside0.mk (Kd.R_drew HO567.out)
      have n4_ := Aside0.mk (blk_drew BK549.out)
      have n5_ := Aside0.mk (blk_drew BK564.out)
      have n6_ := Aside0.mk (below_drew1 HB.out)
      clear HO555
      clear HO558
      clear HO563
      clear HO567
      clear BK549
      clear BK564
      clear HB
      have HO555 := n0_
      have HO558 := n1_
      have HO563 := n2_
      have HO567 := n3_
      have BK549 := n4_
      have BK564 := n5_
      have HB := n6_
      clear n0_ n1_ n2_ n3_ n4_ n5_ n6_
      refine start_ (n := 5) (S := fun w' => w'.cell? ⟨gb564, 0, none⟩ = some (.int .i64 t560) ∧ w'.cell? ⟨gb564, 1, none⟩ = some (.slice Ao60 t561.length co60) ∧ w'.cell? ⟨gb549, 0, none⟩ = some (.int .i64 a0_0) ∧ w'.cell? ⟨gb549, 1, none⟩ = some (.slice A0_1 l0_1.length c0_1)) (ds := []) #[false, false, false, false, false] (by kernel_rfl) rfl rfl ⟨(blk_cell BK564.out 0).trans rfl, (blk_cell BK564.out 1).trans rfl, (blk_cell BK549.out 0).trans rfl, (blk_cell BK549.out 1).trans rfl⟩ (fun hHeld => ?_)
      generalize w64.drew = w65 at HO555 HO558 HO563 HO567 BK549 BK564 HB hHeld ⊢
      refine take_ (i := 0) (N := some 39) (v := ?_) (a' := ?_) #[true, false, false, false, false] rfl rfl (by kernel_rfl) (fun _ _ _ h => h) (Or.inl ⟨by rfl, ?_⟩) hHeld ?_ ?_
      rotate_left
      ·rintro w' ⟨s0, s1, s2, s3⟩
       go_simp
       with_reducible rfl
      rotate_left
      ·simp only [Act.put, List.setIfInBounds_toArray, List.set_cons_zero, List.set_cons_succ, i64_w, i32_w]
       rfl
      refine take_ (i := 1) (N := some 40) (v := ?_) (a' := ?_) #[true, true, false, false, false] rfl rfl (by kernel_rfl) (fun _ _ _ h => h) (Or.inl ⟨by rfl, ?_⟩) hHeld ?_ ?_
      rotate_left
      ·rintro w' ⟨s0, s1, s2, s3⟩
       go_simp
       with_reducible rfl
      rotate_left
      ·simp only [Act.put, List.setIfInBounds_toArray, List.set_cons_zero, List.set_cons_succ, i64_w, i32_w]
       rfl
      refine one_ (i := 2) (N := some 41) #[true, true, true, false, false] rfl rfl (by kernel_rfl) (by decide) (fun K hK => ?_)
      refine goes_ Try.func16 (by kernel_rfl) rfl #[.agg #[.int .i64 a0_0, .slice A0_1 l0_1.length c0_1]] (by rfl) rfl rfl mp_ ?_
      with_reducible refine (laws_toTree.calls k a0_0 _ _ l0_1 t569 t570 _ ?side1 ?side2 A40.out).mono ?_
      (case side1 => repeat (first | exact (Kd.C_below HR0_1.out HB.out) | (with_reducible refine Kd.C_alloc ?_ _) | (with_reducible refine Kd.C_drewN ?_ _) | (with_reducible refine Kd.C_drew ?_)))
      (case side2 => exact HC0_1.out)
      rintro e w66 ⟨v571, rfl, ho0, hb⟩
      refine ⟨_, rfl, ?_⟩
      have n0_ := Aside0.mk (Kd.R_elder' (ra_ HO555.out) (Kd.R_base ho0) hb)
      have n1_ := Aside0.mk (Kd.R_below (ra_ HO558.out) hb)
      have n2_ := Aside0.mk (Kd.R_elder' (ra_ HO563.out) (Kd.R_base ho0) hb)
      have n3_ := Aside0.mk (Kd.R_below (ra_ HO567.out) hb)
      have n4_ := Aside0.mk (Kd.R_lower (Kd.R_new' (Kd.R_new' ho0 (Kd.R_lt (ra_ HO555.out))) (Kd.R_lt (ra_ HO563.out))) (below_size (bl2_ HB.out GE549.out GE564.out)))
      have n5_ := Aside0.mk (blk_below (g := gb549) (o := .cells #[.int .i64 a0_0, .slice A0_1 l0_1.length c0_1] 24 (0, 0)) (bk_ BK549.out) hb)
      have n6_ := Aside0.mk (blk_below (g := gb564) (o := .cells #[.int .i64 t560, .slice Ao60 t561.length co60] 29 (0, 0)) (bk_ BK564.out) hb)
      have n7_ := Aside0.mk (below_step (bl2_ HB.out GE549.out GE564.out) hb)
      clear HO555
      clear HO558
      clear HO563
      clear HO567
      clear BK549
      clear BK564
      clear HB
      have HO555 := n0_
      have HO558 := n1_
      have HO563 := n2_
      have HO567 := n3_
      have HO572 := n4_
      have BK549 := n5_
      have BK564 := n6_
      have HB := n7_
      clear n0_ n1_ n2_ n3_ n4_ n5_ n6_ n7_
      (try clear hb)
      (try clear hb2)
      (try clear hk)
      (try clear hi)
      (try clear ho0)
      obtain ⟨Ao67, co67, eo67⟩ := Kd.R_slice HO572.out
      (first | subst eo67 | (injection eo67 with f1_ f2_ f3_; have f4_ := f1_.symm; have f5_ := f3_.symm; clear f1_ f2_ f3_; subst f4_; subst f5_))
      refine hK.out _ _ ⟨(blk_cell BK564.out 0).trans rfl, (blk_cell BK564.out 1).trans rfl, (blk_cell BK549.out 0).trans rfl, (blk_cell BK549.out 1).trans rfl⟩ (fun hHeld => ?_)
      clear hK K
      refine norm_ (a' := ?_) ?_ ?_
      rotate_left
      ·show Act.put _ (some 41) _ = _
       simp only [Act.put, List.setIfInBounds_toArray, List.set_cons_zero, List.set_cons_succ, i64_w, i32_w]
       rfl
      refine one_ (i := 3) (N := some 42) #[true, true, true, true, false] rfl rfl (by kernel_rfl) (by decide) (fun K hK => ?_)
      refine goes_ Try.func18 (by kernel_rfl) rfl #[.agg #[.int .i64 t560, .slice Ao60 t561.length co60], .agg #[.int .i64 t569, .slice Ao67 t570.length co67]] (by rfl) rfl rfl mp_ ?_
      with_reducible refine (laws_eqTree.calls k t560 _ _ t561 t569 _ _ t570 true _ ?side1 ?side2 ?side3 ?side4 A41.out).mono ?_
      (case side1 => repeat (first | exact (Kd.R_reads' HO563.out).2.2 | (with_reducible refine Kd.C_alloc ?_ _) | (with_reducible refine Kd.C_drewN ?_ _) | (with_reducible refine Kd.C_drew ?_)))
      (case side2 => exact (Kd.R_reads' HO563.out).2.1)
      (case side3 => repeat (first | exact (Kd.R_reads' HO572.out).2.2 | (with_reducible refine Kd.C_alloc ?_ _) | (with_reducible refine Kd.C_drewN ?_ _) | (with_reducible refine Kd.C_drew ?_)))
      (case side4 => exact (Kd.R_reads' HO572.out).2.1)
      rintro e w68 ⟨rfl, hb⟩
      refine ⟨_, rfl, ?_⟩
      have n0_ := Aside0.mk (Kd.R_below (ra_ HO555.out) hb)
      have n1_ := Aside0.mk (Kd.R_below (ra_ HO558.out) hb)
      have n2_ := Aside0.mk (Kd.R_below (ra_ HO563.out) hb)
      have n3_ := Aside0.mk (Kd.R_below (ra_ HO567.out) hb)
      have n4_ := Aside0.mk (Kd.R_below (ra_ HO572.out) hb)
      have n5_ := Aside0.mk (blk_below (g := gb549) (o := .cells #[.int .i64 a0_0, .slice A0_1 l0_1.length c0_1] 24 (0, 0)) (bk_ BK549.out) hb)
      have n6_ := Aside0.mk (blk_below (g := gb564) (o := .cells #[.int .i64 t560, .slice Ao60 t561.length co60] 29 (0, 0)) (bk_ BK564.out) hb)
      have n7_ := Aside0.mk (below_step (bl2_ HB.out GE549.out GE564.out) hb)
      clear HO555
      clear HO558
      clear HO563
      clear HO567
      clear HO572
      clear BK549
      clear BK564
      clear HB
      have HO555 := n0_
      have HO558 := n1_
      have HO563 := n2_
      have HO567 := n3_
      have HO572 := n4_
      have BK549 := n5_
      have BK564 := n6_
      have HB := n7_
      clear n0_ n1_ n2_ n3_ n4_ n5_ n6_ n7_
      (try clear hb)
      (try clear hb2)
      (try clear hk)
      (try clear hi)
      refine hK.out _ _ ⟨(blk_cell BK564.out 0).trans rfl, (blk_cell BK564.out 1).trans rfl, (blk_cell BK549.out 0).trans rfl, (blk_cell BK549.out 1).trans rfl⟩ (fun hHeld => ?_)
      clear hK K
      refine norm_ (a' := ?_) ?_ ?_
      rotate_left
      ·show Act.put _ (some 42) _ = _
       simp only [Act.put, List.setIfInBounds_toArray, List.set_cons_zero, List.set_cons_succ, i64_w, i32_w]
       rfl
      refine pure_ (i := 4) (N := some 43) (v := ?_) (a' := ?_) #[true, true, true, true, true] rfl rfl (by kernel_rfl) (fun _ _ _ h => h) (Or.inl ⟨by rfl, ?_⟩) ?_ ?_
      rotate_left
      ·intro w'
       go_simp
       with_reducible rfl
      rotate_left
      ·simp only [Act.put, List.setIfInBounds_toArray, List.set_cons_zero, List.set_cons_succ, i64_w, i32_w]
       rfl
      refine done_ (by kernel_rfl) ?_
      try go_wp2_with (first | ((with_reducible refine gate_callee (f := 38) rfl ?_); refine goesL_ (some 46) rfl rfl Try.func38 (by kernel_rfl) rfl #[.slice A2 l2.length c2] rfl mp_ ?_; (with_reducible refine (laws_toSpotS.calls k _ _ l2 t574 _ ?side1 ?side2 A43.out).mono ?_); (case side1 => repeat (first | exact (Kd.C_below HR2.out HB.out) | (with_reducible refine Kd.C_alloc ?_ _) | (with_reducible refine Kd.C_drewN ?_ _) | (with_reducible refine Kd.C_drew ?_))); (case side2 => exact HC2.out); rintro e w69 ⟨v575, rfl, ho0, hb⟩; refine ⟨_, rfl, ?_⟩; have n0_ := Aside0.mk (Kd.R_below (ra_ HO555.out) hb); have n1_ := Aside0.mk (Kd.R_elder' (ra_ HO558.out) (Kd.R_base ho0) hb); have n2_ := Aside0.mk (Kd.R_below (ra_ HO563.out) hb); have n3_ := Aside0.mk (Kd.R_elder' (ra_ HO567.out) (Kd.R_base ho0) hb); have n4_ := Aside0.mk (Kd.R_below (ra_ HO572.out) hb); have n5_ := Aside0.mk (Kd.R_lower (Kd.R_new' (Kd.R_new' ho0 (Kd.R_lt (ra_ HO558.out))) (Kd.R_lt (ra_ HO567.out))) (below_size (bl2_ HB.out GE549.out GE564.out))); have n6_ := Aside0.mk (blk_below (g := gb549) (o := .cells #[.int .i64 a0_0, .slice A0_1 l0_1.length c0_1] 24 (0, 0)) (bk_ BK549.out) hb); have n7_ := Aside0.mk (blk_below (g := gb564) (o := .cells #[.int .i64 t560, .slice Ao60 t561.length co60] 29 (0, 0)) (bk_ BK564.out) hb); have n8_ := Aside0.mk (below_step (bl2_ HB.out GE549.out GE564.out) hb); clear HO555; clear HO558; clear HO563; clear HO567; clear HO572; clear BK549; clear BK564; clear HB; have HO555 := n0_; have HO558 := n1_; have HO563 := n2_; have HO567 := n3_; have HO572 := n4_; have HO576 := n5_; have BK549 := n6_; have BK564 := n7_; have HB := n8_; clear n0_ n1_ n2_ n3_ n4_ n5_ n6_ n7_ n8_; (try clear hb); (try clear hb2); (try clear hk); (try clear hi); (try clear ho0); obtain ⟨Ao70, co70, eo70⟩ := Kd.R_slice HO576.out; subst eo70) | ((with_reducible refine gate_callee (f := 40) rfl ?_); refine goesL_ (some 47) rfl rfl Try.func40 (by kernel_rfl) rfl #[.slice Ao63 t565.length co63, .slice Ao70 t574.length co70] rfl mp_ ?_; (with_reducible refine (laws_eqSpotS.calls k _ _ t565 _ _ t574 true _ ?side1 ?side2 ?side3 ?side4 A44.out).mono ?_); (case side1 => repeat (first | exact (Kd.R_reads' HO567.out).2.2 | (with_reducible refine Kd.C_alloc ?_ _) | (with_reducible refine Kd.C_drewN ?_ _) | (with_reducible refine Kd.C_drew ?_))); (case side2 => exact (Kd.R_reads' HO567.out).2.1); (case side3 => repeat (first | exact (Kd.R_reads' HO576.out).2.2 | (with_reducible refine Kd.C_alloc ?_ _) | (with_reducible refine Kd.C_drewN ?_ _) | (with_reducible refine Kd.C_drew ?_))); (case side4 => exact (Kd.R_reads' HO576.out).2.1); rintro e w71 ⟨rfl, hb⟩; refine ⟨_, rfl, ?_⟩; have n0_ := Aside0.mk (Kd.R_below (ra_ HO555.out) hb); have n1_ := Aside0.mk (Kd.R_below (ra_ HO558.out) hb); have n2_ := Aside0.mk (Kd.R_below (ra_ HO563.out) hb); have n3_ := Aside0.mk (Kd.R_below (ra_ HO567.out) hb); have n4_ := Aside0.mk (Kd.R_below (ra_ HO572.out) hb); have n5_ := Aside0.mk (Kd.R_below (ra_ HO576.out) hb); have n6_ := Aside0.mk (blk_below (g := gb549) (o := .cells #[.int .i64 a0_0, .slice A0_1 l0_1.length c0_1] 24 (0, 0)) (bk_ BK549.out) hb); have n7_ := Aside0.mk (blk_below (g := gb564) (o := .cells #[.int .i64 t560, .slice Ao60 t561.length co60] 29 (0, 0)) (bk_ BK564.out) hb); have n8_ := Aside0.mk (below_step (bl2_ HB.out GE549.out GE564.out) hb); clear HO555; clear HO558; clear HO563; clear HO567; clear HO572; clear HO576; clear BK549; clear BK564; clear HB; have HO555 := n0_; have HO558 := n1_; have HO563 := n2_; have HO567 := n3_; have HO572 := n4_; have HO576 := n5_; have BK549 := n6_; have BK564 := n7_; have HB := n8_; clear n0_ n1_ n2_ n3_ n4_ n5_ n6_ n7_ n8_; (try clear hb); (try clear hb2); (try clear hk); (try clear hi)))
      go_ret
      exact ⟨by first | rfl | (simp [errW_none, errW_some] <;> rfl) | (simp [*, errW_none, errW_some] <;> rfl), by repeat (first | (with_reducible first | exact HB.out | apply below_alloc | apply pw_below_drewN | apply below_drew1 | refine below_set ?_ GE549.out | refine below_set ?_ GE564.out) | exact HB.out)⟩
     ·replace c45 := Bool.eq_false_iff.mpr c45
      subst c45
      have H1 : (some false) = some r := by rw [if_neg (show ¬ (false = true) by decide)] at H; exact H
      clear H
      have H := H1
      clear H1
      obtain rfl := Option.some.inj H
      go_enter Try.func9, Try.ntmps9
      try go_wp2_with (first | ((with_reducible refine gate_dst (N := 3) rfl ?_); refine box_event ?hg (N := 3) ?hd (cs := #[.int .i64 a0_0, .slice A0_1 l0_1.length c0_1]) (t := 24) ?hr ?_; (case hd => rfl); (case hg => rfl); (case hr => first | (go_simp; done) | (go_simp; rfl)); intro gb549 hg w72 hbox hb; have n0_ := Aside0.mk (below_step (bl0_ HB.out) hb); have n1_ := Aside0.mk (hbox); have n2_ := Aside0.mk ((by rw [hg]; exact (below_size (bl0_ HB.out)) : w.heap.size ≤ gb549)); have n3_ := Aside0.mk ((by rw [hg]; exact (below_size (bl0_ HB.out)) : w.heap.size ≤ gb549)); clear HB; have HB := n0_; have BK549 := n1_; have GW549 := n2_; have GE549 := n3_; clear n0_ n1_ n2_ n3_; clear hb hbox hg; have hcz73_0 : w72.cell? ⟨gb549, 0, none⟩ = some (.int .i64 a0_0) := (blk_cell BK549.out 0).trans rfl; have hcz73_1 : w72.cell? ⟨gb549, 1, none⟩ = some (.slice A0_1 l0_1.length c0_1) := (blk_cell BK549.out 1).trans rfl; have hfz73_0 := blk_frozen BK549.out 0; have hfz73_1 := blk_frozen BK549.out 1) | ((with_reducible refine gate_callee (f := 14) rfl ?_); refine goesL_ (some 14) rfl rfl Try.func14 (by kernel_rfl) rfl #[.agg #[.int .i64 a0_0, .slice A0_1 l0_1.length c0_1], .int .i64 1048576] rfl mp_ ?_; (with_reducible refine (laws_szTree.calls a0_0 _ _ l0_1 1048576 t550 _ ?side1 ?side2 A4.out).mono ?_); (case side1 => repeat (first | exact (Kd.C_below HR0_1.out HB.out) | (with_reducible refine Kd.C_alloc ?_ _) | (with_reducible refine Kd.C_drewN ?_ _) | (with_reducible refine Kd.C_drew ?_))); (case side2 => exact HC0_1.out); rintro e w74 ⟨rfl, hb⟩; refine ⟨_, rfl, ?_⟩; have n0_ := Aside0.mk (blk_below (g := gb549) (o := .cells #[.int .i64 a0_0, .slice A0_1 l0_1.length c0_1] 24 (0, 0)) (bk_ BK549.out) hb); have n1_ := Aside0.mk (below_step (bl1_ HB.out GE549.out) hb); clear BK549; clear HB; have BK549 := n0_; have HB := n1_; clear n0_ n1_; (try clear hb); (try clear hb2); (try clear hk); (try clear hi)) | ((with_reducible refine gate_callee (f := 36) rfl ?_); refine goesL_ (some 19) rfl rfl Try.func36 (by kernel_rfl) rfl #[.slice A2 l2.length c2, .int .i64 t550] rfl mp_ ?_; (with_reducible refine (laws_szSpotS.calls _ _ l2 t550 t551 _ ?side1 ?side2 A9.out).mono ?_); (case side1 => repeat (first | exact (Kd.C_below HR2.out HB.out) | (with_reducible refine Kd.C_alloc ?_ _) | (with_reducible refine Kd.C_drewN ?_ _) | (with_reducible refine Kd.C_drew ?_))); (case side2 => exact HC2.out); rintro e w' ⟨rfl, ⟨nd, rfl⟩⟩; refine ⟨_, rfl, ?_⟩; (try (rw [drewN_self w74]; generalize hq_ : World.drewN w74 _ = w74; have n0_ : Aside0 (w74.heap[gb549]? = some (.cells #[.int .i64 a0_0, .slice A0_1 l0_1.length c0_1] 24 (0, 0))) := ⟨by rw [← hq_]; exact (bk_ BK549.out)⟩; have n1_ : Aside0 (Below w.heap.size w w74) := ⟨by rw [← hq_]; exact (bl1_ HB.out GE549.out)⟩; clear BK549 HB hq_; have BK549 := n0_; have HB := n1_; clear n0_ n1_)); have hcz75_0 : w74.cell? ⟨gb549, 0, none⟩ = some (.int .i64 a0_0) := (blk_cell BK549.out 0).trans rfl; have hcz75_1 : w74.cell? ⟨gb549, 1, none⟩ = some (.slice A0_1 l0_1.length c0_1) := (blk_cell BK549.out 1).trans rfl; have hfz75_0 := blk_frozen BK549.out 0; have hfz75_1 := blk_frozen BK549.out 1) | ((with_reducible refine gate_callee (f := 16) rfl ?_); refine goesL_ (some 23) rfl rfl Try.func16 (by kernel_rfl) rfl #[.agg #[.int .i64 a0_0, .slice A0_1 l0_1.length c0_1]] rfl mp_ ?_; (with_reducible refine (laws_toTree.calls k a0_0 _ _ l0_1 t552 t553 _ ?side1 ?side2 A14.out).mono ?_); (case side1 => repeat (first | exact (Kd.C_below HR0_1.out HB.out) | (with_reducible refine Kd.C_alloc ?_ _) | (with_reducible refine Kd.C_drewN ?_ _) | (with_reducible refine Kd.C_drew ?_))); (case side2 => exact HC0_1.out); rintro e w76 ⟨v554, rfl, ho0, hb⟩; refine ⟨_, rfl, ?_⟩; have n0_ := Aside0.mk (Kd.R_lower ho0 (below_size (bl1_ HB.out GE549.out))); have n1_ := Aside0.mk (blk_below (g := gb549) (o := .cells #[.int .i64 a0_0, .slice A0_1 l0_1.length c0_1] 24 (0, 0)) (bk_ BK549.out) hb); have n2_ := Aside0.mk (below_step (bl1_ HB.out GE549.out) hb); clear BK549; clear HB; have HO555 := n0_; have BK549 := n1_; have HB := n2_; clear n0_ n1_ n2_; (try clear hb); (try clear hb2); (try clear hk); (try clear hi); (try clear ho0)) | ((with_reducible refine gate_callee (f := 38) rfl ?_); refine goesL_ (some 26) rfl rfl Try.func38 (by kernel_rfl) rfl #[.slice A2 l2.length c2] rfl mp_ ?_; (with_reducible refine (laws_toSpotS.calls k _ _ l2 t556 _ ?side1 ?side2 A15.out).mono ?_); (case side1 => repeat (first | exact (Kd.C_below HR2.out HB.out) | (with_reducible refine Kd.C_alloc ?_ _) | (with_reducible refine Kd.C_drewN ?_ _) | (with_reducible refine Kd.C_drew ?_))); (case side2 => exact HC2.out); rintro e w77 ⟨v557, rfl, ho0, hb⟩; refine ⟨_, rfl, ?_⟩; have n0_ := Aside0.mk (Kd.R_below (ra_ HO555.out) hb); have n1_ := Aside0.mk (Kd.R_lower ho0 (below_size (bl1_ HB.out GE549.out))); have n2_ := Aside0.mk (blk_below (g := gb549) (o := .cells #[.int .i64 a0_0, .slice A0_1 l0_1.length c0_1] 24 (0, 0)) (bk_ BK549.out) hb); have n3_ := Aside0.mk (below_step (bl1_ HB.out GE549.out) hb); clear HO555; clear BK549; clear HB; have HO555 := n0_; have HO558 := n1_; have BK549 := n2_; have HB := n3_; clear n0_ n1_ n2_ n3_; (try clear hb); (try clear hb2); (try clear hk); (try clear hi); (try clear ho0); obtain ⟨Ao78, co78, eo78⟩ := Kd.R_slice HO555.out; subst eo78; obtain ⟨Ao79, co79, eo79⟩ := Kd.R_slice HO558.out; subst eo79) | ((with_reducible refine gate_callee (f := 37) rfl ?_); refine goesL_ (some 27) rfl rfl Try.func37 (by kernel_rfl) rfl #[.agg #[.int .i64 t552, .slice Ao78 t553.length co78], .int .i64 a1, .slice Ao79 t556.length co79] rfl mp_ ?_; (with_reducible refine (spec_ValidPacking.calls k t552 _ _ t553 a1 _ _ t556 t559 _ ?side1 ?side2 ?side3 ?side4 A16.out).mono ?_); (case side1 => repeat (first | exact (Kd.R_reads' HO555.out).2.2 | (with_reducible refine Kd.C_alloc ?_ _) | (with_reducible refine Kd.C_drewN ?_ _) | (with_reducible refine Kd.C_drew ?_))); (case side2 => exact (Kd.R_reads' HO555.out).2.1); (case side3 => repeat (first | exact (Kd.R_reads' HO558.out).2.2 | (with_reducible refine Kd.C_alloc ?_ _) | (with_reducible refine Kd.C_drewN ?_ _) | (with_reducible refine Kd.C_drew ?_))); (case side4 => exact (Kd.R_reads' HO558.out).2.1); rintro e w80 ⟨rfl, hb⟩; refine ⟨_, rfl, ?_⟩; have n0_ := Aside0.mk (Kd.R_below (ra_ HO555.out) hb); have n1_ := Aside0.mk (Kd.R_below (ra_ HO558.out) hb); have n2_ := Aside0.mk (blk_below (g := gb549) (o := .cells #[.int .i64 a0_0, .slice A0_1 l0_1.length c0_1] 24 (0, 0)) (bk_ BK549.out) hb); have n3_ := Aside0.mk (below_step (bl1_ HB.out GE549.out) hb); clear HO555; clear HO558; clear BK549; clear HB; have HO555 := n0_; have HO558 := n1_; have BK549 := n2_; have HB := n3_; clear n0_ n1_ n2_ n3_; (try clear hb); (try clear hb2); (try clear hk); (try clear hi); have hcz81_0 : w80.cell? ⟨gb549, 0, none⟩ = some (.int .i64 a0_0) := (blk_cell BK549.out 0).trans rfl; have hcz81_1 : w80.cell? ⟨gb549, 1, none⟩ = some (.slice A0_1 l0_1.length c0_1) := (blk_cell BK549.out 1).trans rfl; have hfz81_0 := blk_frozen BK549.out 0; have hfz81_1 := blk_frozen BK549.out 1) | ((with_reducible refine gate_callee (f := 16) rfl ?_); refine goesL_ (some 29) rfl rfl Try.func16 (by kernel_rfl) rfl #[.agg #[.int .i64 a0_0, .slice A0_1 l0_1.length c0_1]] rfl mp_ ?_; (with_reducible refine (laws_toTree.calls k a0_0 _ _ l0_1 t560 t561 _ ?side1 ?side2 A17.out).mono ?_); (case side1 => repeat (first | exact (Kd.C_below HR0_1.out HB.out) | (with_reducible refine Kd.C_alloc ?_ _) | (with_reducible refine Kd.C_drewN ?_ _) | (with_reducible refine Kd.C_drew ?_))); (case side2 => exact HC0_1.out); rintro e w82 ⟨v562, rfl, ho0, hb⟩; refine ⟨_, rfl, ?_⟩; have n0_ := Aside0.mk (Kd.R_elder' (ra_ HO555.out) (Kd.R_base ho0) hb); have n1_ := Aside0.mk (Kd.R_below (ra_ HO558.out) hb); have n2_ := Aside0.mk (Kd.R_lower (Kd.R_new' ho0 (Kd.R_lt (ra_ HO555.out))) (below_size (bl1_ HB.out GE549.out))); have n3_ := Aside0.mk (blk_below (g := gb549) (o := .cells #[.int .i64 a0_0, .slice A0_1 l0_1.length c0_1] 24 (0, 0)) (bk_ BK549.out) hb); have n4_ := Aside0.mk (below_step (bl1_ HB.out GE549.out) hb); clear HO555; clear HO558; clear BK549; clear HB; have HO555 := n0_; have HO558 := n1_; have HO563 := n2_; have BK549 := n3_; have HB := n4_; clear n0_ n1_ n2_ n3_ n4_; (try clear hb); (try clear hb2); (try clear hk); (try clear hi); (try clear ho0)) | ((with_reducible refine gate_dst (N := 9) rfl ?_); refine box_event ?hg (N := 9) ?hd (cs := #[.int .i64 0, .slice none 0 0]) (t := 29) ?hr ?_; (case hd => rfl); (case hg => rfl); (case hr => first | (go_simp; done) | (go_simp; rfl)); intro gb564 hg w83 hbox hb; have n0_ := Aside0.mk (Kd.R_below (ra_ HO555.out) hb); have n1_ := Aside0.mk (Kd.R_below (ra_ HO558.out) hb); have n2_ := Aside0.mk (Kd.R_below (ra_ HO563.out) hb); have n3_ := Aside0.mk (blk_below (g := gb549) (o := .cells #[.int .i64 a0_0, .slice A0_1 l0_1.length c0_1] 24 (0, 0)) (bk_ BK549.out) hb); have n4_ := Aside0.mk (below_step (bl1_ HB.out GE549.out) hb); have n5_ := Aside0.mk (hbox); have n6_ := Aside0.mk ((by rw [hg]; exact (below_size (bl1_ HB.out GE549.out)) : w.heap.size ≤ gb564)); have n7_ := Aside0.mk ((by rw [hg]; exact (below_size (bl1_ HB.out GE549.out)) : w.heap.size ≤ gb564)); have n8_ := Aside0.mk ((by rw [hg]; exact Nat.ne_of_lt (blk_lt (bk_ BK549.out)) : gb549 ≠ gb564)); have n9_ := Aside0.mk ((by rw [hg]; exact Nat.ne_of_gt (blk_lt (bk_ BK549.out)) : gb564 ≠ gb549)); clear HO555; clear HO558; clear HO563; clear BK549; clear HB; have HO555 := n0_; have HO558 := n1_; have HO563 := n2_; have BK549 := n3_; have HB := n4_; have BK564 := n5_; have GW564 := n6_; have GE564 := n7_; have NB549_564 := n8_; have NB564_549 := n9_; clear n0_ n1_ n2_ n3_ n4_ n5_ n6_ n7_ n8_ n9_; clear hb hbox hg; have hnb84 := NB564_549.out; have hnc84 := NB549_564.out; have hcz85_0 : w83.cell? ⟨gb564, 0, none⟩ = some (.int .i64 0) := (blk_cell BK564.out 0).trans rfl; have hcz85_1 : w83.cell? ⟨gb564, 1, none⟩ = some (.slice none 0 0) := (blk_cell BK564.out 1).trans rfl; have hfz85_0 := blk_frozen BK564.out 0; have hfz85_1 := blk_frozen BK564.out 1; obtain ⟨Ao86, co86, eo86⟩ := Kd.R_slice HO563.out; subst eo86) | ((with_reducible refine gate_callee (f := 38) rfl ?_); refine goesL_ (some 31) rfl rfl Try.func38 (by kernel_rfl) rfl #[.slice A2 l2.length c2] rfl mp_ ?_; (with_reducible refine (laws_toSpotS.calls k _ _ l2 t565 _ ?side1 ?side2 A18.out).mono ?_); (case side1 => exact Kd.C_below HR2.out (bl2_ HB.out GE549.out GE564.out)); (case side2 => exact HC2.out); rintro e w87 ⟨v566, rfl, ho0, hb⟩; refine ⟨_, rfl, ?_⟩; have n0_ := Aside0.mk (Kd.R_below (by (with_reducible repeat (first | apply Kd.R_alloc | apply Kd.R_drewN | apply Kd.R_drew)); exact (Kd.R_mono (Kd.R_far (p := ⟨gb564, 1, none⟩) (Kd.R_far (p := ⟨gb564, 0, none⟩) (Kd.R_types HO555.out BK564.out (by decide)) (fun _ hk => hk.2) (.int .i64 t560)) (fun _ hk => hk.2) (.slice Ao86 t561.length co86)) (fun _ h_ => h_.1))) hb); have n1_ := Aside0.mk (Kd.R_elder' (by (with_reducible repeat (first | apply Kd.R_alloc | apply Kd.R_drewN | apply Kd.R_drew)); exact (Kd.R_mono (Kd.R_far (p := ⟨gb564, 1, none⟩) (Kd.R_far (p := ⟨gb564, 0, none⟩) (Kd.R_types HO558.out BK564.out (by decide)) (fun _ hk => hk.2) (.int .i64 t560)) (fun _ hk => hk.2) (.slice Ao86 t561.length co86)) (fun _ h_ => h_.1))) (Kd.R_base ho0) hb); have n2_ := Aside0.mk (Kd.R_below (by (with_reducible repeat (first | apply Kd.R_alloc | apply Kd.R_drewN | apply Kd.R_drew)); exact (Kd.R_mono (Kd.R_far (p := ⟨gb564, 1, none⟩) (Kd.R_far (p := ⟨gb564, 0, none⟩) (Kd.R_types HO563.out BK564.out (by decide)) (fun _ hk => hk.2) (.int .i64 t560)) (fun _ hk => hk.2) (.slice Ao86 t561.length co86)) (fun _ h_ => h_.1))) hb); have n3_ := Aside0.mk (Kd.R_lower (Kd.R_new' ho0 (Kd.R_lt (by (with_reducible repeat (first | apply Kd.R_alloc | apply Kd.R_drewN | apply Kd.R_drew)); exact (Kd.R_mono (Kd.R_far (p := ⟨gb564, 1, none⟩) (Kd.R_far (p := ⟨gb564, 0, none⟩) (Kd.R_types HO558.out BK564.out (by decide)) (fun _ hk => hk.2) (.int .i64 t560)) (fun _ hk => hk.2) (.slice Ao86 t561.length co86)) (fun _ h_ => h_.1))))) (below_size (bl2_ HB.out GE549.out GE564.out))); have n4_ := Aside0.mk (blk_below (g := gb549) (o := .cells #[.int .i64 a0_0, .slice A0_1 l0_1.length c0_1] 24 (0, 0)) (by (with_reducible repeat (first | refine blk_drewN ?_ _ | refine blk_drew ?_ | refine blk_alloc ?_ _)); refine blk_far ?_ NB549_564.out _; (with_reducible repeat (first | refine blk_drewN ?_ _ | refine blk_drew ?_ | refine blk_alloc ?_ _)); refine blk_far ?_ NB549_564.out _; (with_reducible repeat (first | refine blk_drewN ?_ _ | refine blk_drew ?_ | refine blk_alloc ?_ _)); exact BK549.out) hb); have n5_ := Aside0.mk (blk_below (g := gb564) (o := .cells #[.int .i64 t560, .slice Ao86 t561.length co86] 29 (0, 0)) (by (with_reducible repeat (first | refine blk_drewN ?_ _ | refine blk_drew ?_ | refine blk_alloc ?_ _)); refine blk_put (cs := #[.int .i64 t560, .slice none 0 0]) ?_ 1 _ rfl; (with_reducible repeat (first | refine blk_drewN ?_ _ | refine blk_drew ?_ | refine blk_alloc ?_ _)); refine blk_put (cs := #[.int .i64 0, .slice none 0 0]) ?_ 0 _ rfl; (with_reducible repeat (first | refine blk_drewN ?_ _ | refine blk_drew ?_ | refine blk_alloc ?_ _)); exact BK564.out) hb); have n6_ := Aside0.mk (below_step (bl2_ HB.out GE549.out GE564.out) hb); clear HO555; clear HO558; clear HO563; clear BK549; clear BK564; clear HB; have HO555 := n0_; have HO558 := n1_; have HO563 := n2_; have HO567 := n3_; have BK549 := n4_; have BK564 := n5_; have HB := n6_; clear n0_ n1_ n2_ n3_ n4_ n5_ n6_; (try clear hb); (try clear hb2); (try clear hk); (try clear hi); (try clear ho0); have hcz88_0 : w87.cell? ⟨gb564, 0, none⟩ = some (.int .i64 t560) := (blk_cell BK564.out 0).trans rfl; have hcz88_1 : w87.cell? ⟨gb564, 1, none⟩ = some (.slice Ao86 t561.length co86) := (blk_cell BK564.out 1).trans rfl; have hfz88_0 := blk_frozen BK564.out 0; have hfz88_1 := blk_frozen BK564.out 1; obtain ⟨Ao89, co89, eo89⟩ := Kd.R_slice HO567.out; subst eo89) | ((with_reducible refine gate_callee (f := 39) rfl ?_); refine goesL_ (some 35) rfl rfl Try.func39 (by kernel_rfl) rfl #[.agg #[.int .i64 t560, .slice Ao86 t561.length co86], .int .i64 a1, .slice Ao89 t565.length co89] rfl mp_ ?_; (with_reducible refine (impl_ValidPacking.calls k t560 _ _ t561 a1 _ _ t565 t568 _ ?side1 ?side2 ?side3 ?side4 A19.out).mono ?_); (case side1 => repeat (first | exact (Kd.R_reads' HO563.out).2.2 | (with_reducible refine Kd.C_alloc ?_ _) | (with_reducible refine Kd.C_drewN ?_ _) | (with_reducible refine Kd.C_drew ?_))); (case side2 => exact (Kd.R_reads' HO563.out).2.1); (case side3 => repeat (first | exact (Kd.R_reads' HO567.out).2.2 | (with_reducible refine Kd.C_alloc ?_ _) | (with_reducible refine Kd.C_drewN ?_ _) | (with_reducible refine Kd.C_drew ?_))); (case side4 => exact (Kd.R_reads' HO567.out).2.1); rintro e w90 ⟨rfl, hb⟩; refine ⟨_, rfl, ?_⟩; have n0_ := Aside0.mk (Kd.R_below (ra_ HO555.out) hb); have n1_ := Aside0.mk (Kd.R_below (ra_ HO558.out) hb); have n2_ := Aside0.mk (Kd.R_below (ra_ HO563.out) hb); have n3_ := Aside0.mk (Kd.R_below (ra_ HO567.out) hb); have n4_ := Aside0.mk (blk_below (g := gb549) (o := .cells #[.int .i64 a0_0, .slice A0_1 l0_1.length c0_1] 24 (0, 0)) (bk_ BK549.out) hb); have n5_ := Aside0.mk (blk_below (g := gb564) (o := .cells #[.int .i64 t560, .slice Ao86 t561.length co86] 29 (0, 0)) (bk_ BK564.out) hb); have n6_ := Aside0.mk (below_step (bl2_ HB.out GE549.out GE564.out) hb); clear HO555; clear HO558; clear HO563; clear HO567; clear BK549; clear BK564; clear HB; have HO555 := n0_; have HO558 := n1_; have HO563 := n2_; have HO567 := n3_; have BK549 := n4_; have BK564 := n5_; have HB := n6_; clear n0_ n1_ n2_ n3_ n4_ n5_ n6_; (try clear hb); (try clear hb2); (try clear hk); (try clear hi)))
      have n0_ := Aside0.mk (Kd.R_drew HO555.out)
      have n1_ := Aside0.mk (Kd.R_drew HO558.out)
      have n2_ := Aside0.mk (Kd.R_drew HO563.out)
      have n3_ := Aside0.mk (Kd.R_drew HO567.out)
      have n4_ := Aside0.mk (blk_drew BK549.out)
      have n5_ := Aside0.mk (blk_drew BK564.out)
      have n6_ := Aside0.mk (below_drew1 HB.out)
      clear HO555
      clear HO558
      clear HO563
      clear HO567
      clear BK549
      clear BK564
      clear HB
      have HO555 := n0_
      have HO558 := n1_
      have HO563 := n2_
      have HO567 := n3_
      have BK549 := n4_
      have BK564 := n5_
      have HB := n6_
      clear n0_ n1_ n2_ n3_ n4_ n5_ n6_
      refine start_ (n := 5) (S := fun w' => w'.cell? ⟨gb564, 0, none⟩ = some (.int .i64 t560) ∧ w'.cell? ⟨gb564, 1, none⟩ = some (.slice Ao86 t561.length co86) ∧ w'.cell? ⟨gb549, 0, none⟩ = some (.int .i64 a0_0) ∧ w'.cell? ⟨gb549, 1, none⟩ = some (.slice A0_1 l0_1.length c0_1)) (ds := []) #[false, false, false, false, false] (by kernel_rfl) rfl rfl ⟨(blk_cell BK564.out 0).trans rfl, (blk_cell BK564.out 1).trans rfl, (blk_cell BK549.out 0).trans rfl, (blk_cell BK549.out 1).trans rfl⟩ (fun hHeld => ?_)
      generalize w90.drew = w91 at HO555 HO558 HO563 HO567 BK549 BK564 HB hHeld ⊢
      refine take_ (i := 0) (N := some 39) (v := ?_) (a' := ?_) #[true, false, false, false, false] rfl rfl (by kernel_rfl) (fun _ _ _ h => h) (Or.inl ⟨by rfl, ?_⟩) hHeld ?_ ?_
      rotate_left
      ·rintro w' ⟨s0, s1, s2, s3⟩
       go_simp
       with_reducible rfl
      rotate_left
      ·simp only [Act.put, List.setIfInBounds_toArray, List.set_cons_zero, List.set_cons_succ, i64_w, i32_w]
       rfl
      refine take_ (i := 1) (N := some 40) (v := ?_) (a' := ?_) #[true, true, false, false, false] rfl rfl (by kernel_rfl) (fun _ _ _ h => h) (Or.inl ⟨by rfl, ?_⟩) hHeld ?_ ?_
      rotate_left
      ·rintro w' ⟨s0, s1, s2, s3⟩
       go_simp
       with_reducible rfl
      rotate_left
      ·simp only [Act.put, List.setIfInBounds_toArray, List.set_cons_zero, List.set_cons_succ, i64_w, i32_w]
       rfl
      refine one_ (i := 2) (N := some 41) #[true, true, true, false, false] rfl rfl (by kernel_rfl) (by decide) (fun K hK => ?_)
      refine goes_ Try.func16 (by kernel_rfl) rfl #[.agg #[.int .i64 a0_0, .slice A0_1 l0_1.length c0_1]] (by rfl) rfl rfl mp_ ?_
      with_reducible refine (laws_toTree.calls k a0_0 _ _ l0_1 t569 t570 _ ?side1 ?side2 A40.out).mono ?_
      (case side1 => repeat (first | exact (Kd.C_below HR0_1.out HB.out) | (with_reducible refine Kd.C_alloc ?_ _) | (with_reducible refine Kd.C_drewN ?_ _) | (with_reducible refine Kd.C_drew ?_)))
      (case side2 => exact HC0_1.out)
      rintro e w92 ⟨v571, rfl, ho0, hb⟩
      refine ⟨_, rfl, ?_⟩
      have n0_ := Aside0.mk (Kd.R_elder' (ra_ HO555.out) (Kd.R_base ho0) hb)
      have n1_ := Aside0.mk (Kd.R_below (ra_ HO558.out) hb)
      have n2_ := Aside0.mk (Kd.R_elder' (ra_ HO563.out) (Kd.R_base ho0) hb)
      have n3_ := Aside0.mk (Kd.R_below (ra_ HO567.out) hb)
      have n4_ := Aside0.mk (Kd.R_lower (Kd.R_new' (Kd.R_new' ho0 (Kd.R_lt (ra_ HO555.out))) (Kd.R_lt (ra_ HO563.out))) (below_size (bl2_ HB.out GE549.out GE564.out)))
      have n5_ := Aside0.mk (blk_below (g := gb549) (o := .cells #[.int .i64 a0_0, .slice A0_1 l0_1.length c0_1] 24 (0, 0)) (bk_ BK549.out) hb)
      have n6_ := Aside0.mk (blk_below (g := gb564) (o := .cells #[.int .i64 t560, .slice Ao86 t561.length co86] 29 (0, 0)) (bk_ BK564.out) hb)
      have n7_ := Aside0.mk (below_step (bl2_ HB.out GE549.out GE564.out) hb)
      clear HO555
      clear HO558
      clear HO563
      clear HO567
      clear BK549
      clear BK564
      clear HB
      have HO555 := n0_
      have HO558 := n1_
      have HO563 := n2_
      have HO567 := n3_
      have HO572 := n4_
      have BK549 := n5_
      have BK564 := n6_
      have HB := n7_
      clear n0_ n1_ n2_ n3_ n4_ n5_ n6_ n7_
      (try clear hb)
      (try clear hb2)
      (try clear hk)
      (try clear hi)
      (try clear ho0)
      obtain ⟨Ao93, co93, eo93⟩ := Kd.R_slice HO572.out
      (first | subst eo93 | (injection eo93 with f1_ f2_ f3_; have f4_ := f1_.symm; have f5_ := f3_.symm; clear f1_ f2_ f3_; subst f4_; subst f5_))
      refine hK.out _ _ ⟨(blk_cell BK564.out 0).trans rfl, (blk_cell BK564.out 1).trans rfl, (blk_cell BK549.out 0).trans rfl, (blk_cell BK549.out 1).trans rfl⟩ (fun hHeld => ?_)
      clear hK K
      refine norm_ (a' := ?_) ?_ ?_
      rotate_left
      ·show Act.put _ (some 41) _ = _
       simp only [Act.put, List.setIfInBounds_toArray, List.set_cons_zero, List.set_cons_succ, i64_w, i32_w]
       rfl
      refine one_ (i := 3) (N := some 42) #[true, true, true, true, false] rfl rfl (by kernel_rfl) (by decide) (fun K hK => ?_)
      refine goes_ Try.func18 (by kernel_rfl) rfl #[.agg #[.int .i64 t560, .slice Ao86 t561.length co86], .agg #[.int .i64 t569, .slice Ao93 t570.length co93]] (by rfl) rfl rfl mp_ ?_
      with_reducible refine (laws_eqTree.calls k t560 _ _ t561 t569 _ _ t570 true _ ?side1 ?side2 ?side3 ?side4 A41.out).mono ?_
      (case side1 => repeat (first | exact (Kd.R_reads' HO563.out).2.2 | (with_reducible refine Kd.C_alloc ?_ _) | (with_reducible refine Kd.C_drewN ?_ _) | (with_reducible refine Kd.C_drew ?_)))
      (case side2 => exact (Kd.R_reads' HO563.out).2.1)
      (case side3 => repeat (first | exact (Kd.R_reads' HO572.out).2.2 | (with_reducible refine Kd.C_alloc ?_ _) | (with_reducible refine Kd.C_drewN ?_ _) | (with_reducible refine Kd.C_drew ?_)))
      (case side4 => exact (Kd.R_reads' HO572.out).2.1)
      rintro e w94 ⟨rfl, hb⟩
      refine ⟨_, rfl, ?_⟩
      have n0_ := Aside0.mk (Kd.R_below (ra_ HO555.out) hb)
      have n1_ := Aside0.mk (Kd.R_below (ra_ HO558.out) hb)
      have n2_ := Aside0.mk (Kd.R_below (ra_ HO563.out) hb)
      have n3_ := Aside0.mk (Kd.R_below (ra_ HO567.out) hb)
      have n4_ := Aside0.mk (Kd.R_below (ra_ HO572.out) hb)
      have n5_ := Aside0.mk (blk_below (g := gb549) (o := .cells #[.int .i64 a0_0, .slice A0_1 l0_1.length c0_1] 24 (0, 0)) (bk_ BK549.out) hb)
      have n6_ := Aside0.mk (blk_below (g := gb564) (o := .cells #[.int .i64 t560, .slice Ao86 t561.length co86] 29 (0, 0)) (bk_ BK564.out) hb)
      have n7_ := Aside0.mk (below_step (bl2_ HB.out GE549.out GE564.out) hb)
      clear HO555
      clear HO558
      clear HO563
      clear HO567
      clear HO572
      clear BK549
      clear BK564
      clear HB
      have HO555 := n0_
      have HO558 := n1_
      have HO563 := n2_
      have HO567 := n3_
      have HO572 := n4_
      have BK549 := n5_
      have BK564 := n6_
      have HB := n7_
      clear n0_ n1_ n2_ n3_ n4_ n5_ n6_ n7_
      (try clear hb)
      (try clear hb2)
      (try clear hk)
      (try clear hi)
      refine hK.out _ _ ⟨(blk_cell BK564.out 0).trans rfl, (blk_cell BK564.out 1).trans rfl, (blk_cell BK549.out 0).trans rfl, (blk_cell BK549.out 1).trans rfl⟩ (fun hHeld => ?_)
      clear hK K
      refine norm_ (a' := ?_) ?_ ?_
      rotate_left
      ·show Act.put _ (some 42) _ = _
       simp only [Act.put, List.setIfInBounds_toArray, List.set_cons_zero, List.set_cons_succ, i64_w, i32_w]
       rfl
      refine pure_ (i := 4) (N := some 43) (v := ?_) (a' := ?_) #[true, true, true, true, true] rfl rfl (by kernel_rfl) (fun _ _ _ h => h) (Or.inl ⟨by rfl, ?_⟩) ?_ ?_
      rotate_left
      ·intro w'
       go_simp
       with_reducible rfl
      rotate_left
      ·simp only [Act.put, List.setIfInBounds_toArray, List.set_cons_zero, List.set_cons_succ, i64_w, i32_w]
       rfl
      refine done_ (by kernel_rfl) ?_
      try go_wp2_with (first | ((with_reducible refine gate_callee (f := 38) rfl ?_); refine goesL_ (some 46) rfl rfl Try.func38 (by kernel_rfl) rfl #[.slice A2 l2.length c2] rfl mp_ ?_; (with_reducible refine (laws_toSpotS.calls k _ _ l2 t574 _ ?side1 ?side2 A43.out).mono ?_); (case side1 => repeat (first | exact (Kd.C_below HR2.out HB.out) | (with_reducible refine Kd.C_alloc ?_ _) | (with_reducible refine Kd.C_drewN ?_ _) | (with_reducible refine Kd.C_drew ?_))); (case side2 => exact HC2.out); rintro e w95 ⟨v575, rfl, ho0, hb⟩; refine ⟨_, rfl, ?_⟩; have n0_ := Aside0.mk (Kd.R_below (ra_ HO555.out) hb); have n1_ := Aside0.mk (Kd.R_elder' (ra_ HO558.out) (Kd.R_base ho0) hb); have n2_ := Aside0.mk (Kd.R_below (ra_ HO563.out) hb); have n3_ := Aside0.mk (Kd.R_elder' (ra_ HO567.out) (Kd.R_base ho0) hb); have n4_ := Aside0.mk (Kd.R_below (ra_ HO572.out) hb); have n5_ := Aside0.mk (Kd.R_lower (Kd.R_new' (Kd.R_new' ho0 (Kd.R_lt (ra_ HO558.out))) (Kd.R_lt (ra_ HO567.out))) (below_size (bl2_ HB.out GE549.out GE564.out))); have n6_ := Aside0.mk (blk_below (g := gb549) (o := .cells #[.int .i64 a0_0, .slice A0_1 l0_1.length c0_1] 24 (0, 0)) (bk_ BK549.out) hb); have n7_ := Aside0.mk (blk_below (g := gb564) (o := .cells #[.int .i64 t560, .slice Ao86 t561.length co86] 29 (0, 0)) (bk_ BK564.out) hb); have n8_ := Aside0.mk (below_step (bl2_ HB.out GE549.out GE564.out) hb); clear HO555; clear HO558; clear HO563; clear HO567; clear HO572; clear BK549; clear BK564; clear HB; have HO555 := n0_; have HO558 := n1_; have HO563 := n2_; have HO567 := n3_; have HO572 := n4_; have HO576 := n5_; have BK549 := n6_; have BK564 := n7_; have HB := n8_; clear n0_ n1_ n2_ n3_ n4_ n5_ n6_ n7_ n8_; (try clear hb); (try clear hb2); (try clear hk); (try clear hi); (try clear ho0); obtain ⟨Ao96, co96, eo96⟩ := Kd.R_slice HO576.out; subst eo96) | ((with_reducible refine gate_callee (f := 40) rfl ?_); refine goesL_ (some 47) rfl rfl Try.func40 (by kernel_rfl) rfl #[.slice Ao89 t565.length co89, .slice Ao96 t574.length co96] rfl mp_ ?_; (with_reducible refine (laws_eqSpotS.calls k _ _ t565 _ _ t574 false _ ?side1 ?side2 ?side3 ?side4 A44.out).mono ?_); (case side1 => repeat (first | exact (Kd.R_reads' HO567.out).2.2 | (with_reducible refine Kd.C_alloc ?_ _) | (with_reducible refine Kd.C_drewN ?_ _) | (with_reducible refine Kd.C_drew ?_))); (case side2 => exact (Kd.R_reads' HO567.out).2.1); (case side3 => repeat (first | exact (Kd.R_reads' HO576.out).2.2 | (with_reducible refine Kd.C_alloc ?_ _) | (with_reducible refine Kd.C_drewN ?_ _) | (with_reducible refine Kd.C_drew ?_))); (case side4 => exact (Kd.R_reads' HO576.out).2.1); rintro e w97 ⟨rfl, hb⟩; refine ⟨_, rfl, ?_⟩; have n0_ := Aside0.mk (Kd.R_below (ra_ HO555.out) hb); have n1_ := Aside0.mk (Kd.R_below (ra_ HO558.out) hb); have n2_ := Aside0.mk (Kd.R_below (ra_ HO563.out) hb); have n3_ := Aside0.mk (Kd.R_below (ra_ HO567.out) hb); have n4_ := Aside0.mk (Kd.R_below (ra_ HO572.out) hb); have n5_ := Aside0.mk (Kd.R_below (ra_ HO576.out) hb); have n6_ := Aside0.mk (blk_below (g := gb549) (o := .cells #[.int .i64 a0_0, .slice A0_1 l0_1.length c0_1] 24 (0, 0)) (bk_ BK549.out) hb); have n7_ := Aside0.mk (blk_below (g := gb564) (o := .cells #[.int .i64 t560, .slice Ao86 t561.length co86] 29 (0, 0)) (bk_ BK564.out) hb); have n8_ := Aside0.mk (below_step (bl2_ HB.out GE549.out GE564.out) hb); clear HO555; clear HO558; clear HO563; clear HO567; clear HO572; clear HO576; clear BK549; clear BK564; clear HB; have HO555 := n0_; have HO558 := n1_; have HO563 := n2_; have HO567 := n3_; have HO572 := n4_; have HO576 := n5_; have BK549 := n6_; have BK564 := n7_; have HB := n8_; clear n0_ n1_ n2_ n3_ n4_ n5_ n6_ n7_ n8_; (try clear hb); (try clear hb2); (try clear hk); (try clear hi)))
      go_ret
      exact ⟨by first | rfl | (simp [errW_none, errW_some] <;> rfl) | (simp [*, errW_none, errW_some] <;> rfl), by repeat (first | (with_reducible first | exact HB.out | apply below_alloc | apply pw_below_drewN | apply below_drew1 | refine below_set ?_ GE549.out | refine below_set ?_ GE564.out) | exact HB.out)⟩
    ·replace c42 := Bool.eq_false_iff.mpr c42
     subst c42
     have H1 : (some false) = some r := by rw [if_neg (show ¬ (false = true) by decide)] at H; exact H
     clear H
     have H := H1
     clear H1
     obtain rfl := Option.some.inj H
     go_enter Try.func9, Try.ntmps9
     try go_wp2_with (first | ((with_reducible refine gate_dst (N := 3) rfl ?_); refine box_event ?hg (N := 3) ?hd (cs := #[.int .i64 a0_0, .slice A0_1 l0_1.length c0_1]) (t := 24) ?hr ?_; (case hd => rfl); (case hg => rfl); (case hr => first | (go_simp; done) | (go_simp; rfl)); intro gb549 hg w98 hbox hb; have n0_ := Aside0.mk (below_step (bl0_ HB.out) hb); have n1_ := Aside0.mk (hbox); have n2_ := Aside0.mk ((by rw [hg]; exact (below_size (bl0_ HB.out)) : w.heap.size ≤ gb549)); have n3_ := Aside0.mk ((by rw [hg]; exact (below_size (bl0_ HB.out)) : w.heap.size ≤ gb549)); clear HB; have HB := n0_; have BK549 := n1_; have GW549 := n2_; have GE549 := n3_; clear n0_ n1_ n2_ n3_; clear hb hbox hg; have hcz99_0 : w98.cell? ⟨gb549, 0, none⟩ = some (.int .i64 a0_0) := (blk_cell BK549.out 0).trans rfl; have hcz99_1 : w98.cell? ⟨gb549, 1, none⟩ = some (.slice A0_1 l0_1.length c0_1) := (blk_cell BK549.out 1).trans rfl; have hfz99_0 := blk_frozen BK549.out 0; have hfz99_1 := blk_frozen BK549.out 1) | ((with_reducible refine gate_callee (f := 14) rfl ?_); refine goesL_ (some 14) rfl rfl Try.func14 (by kernel_rfl) rfl #[.agg #[.int .i64 a0_0, .slice A0_1 l0_1.length c0_1], .int .i64 1048576] rfl mp_ ?_; (with_reducible refine (laws_szTree.calls a0_0 _ _ l0_1 1048576 t550 _ ?side1 ?side2 A4.out).mono ?_); (case side1 => repeat (first | exact (Kd.C_below HR0_1.out HB.out) | (with_reducible refine Kd.C_alloc ?_ _) | (with_reducible refine Kd.C_drewN ?_ _) | (with_reducible refine Kd.C_drew ?_))); (case side2 => exact HC0_1.out); rintro e w100 ⟨rfl, hb⟩; refine ⟨_, rfl, ?_⟩; have n0_ := Aside0.mk (blk_below (g := gb549) (o := .cells #[.int .i64 a0_0, .slice A0_1 l0_1.length c0_1] 24 (0, 0)) (bk_ BK549.out) hb); have n1_ := Aside0.mk (below_step (bl1_ HB.out GE549.out) hb); clear BK549; clear HB; have BK549 := n0_; have HB := n1_; clear n0_ n1_; (try clear hb); (try clear hb2); (try clear hk); (try clear hi)) | ((with_reducible refine gate_callee (f := 36) rfl ?_); refine goesL_ (some 19) rfl rfl Try.func36 (by kernel_rfl) rfl #[.slice A2 l2.length c2, .int .i64 t550] rfl mp_ ?_; (with_reducible refine (laws_szSpotS.calls _ _ l2 t550 t551 _ ?side1 ?side2 A9.out).mono ?_); (case side1 => repeat (first | exact (Kd.C_below HR2.out HB.out) | (with_reducible refine Kd.C_alloc ?_ _) | (with_reducible refine Kd.C_drewN ?_ _) | (with_reducible refine Kd.C_drew ?_))); (case side2 => exact HC2.out); rintro e w' ⟨rfl, ⟨nd, rfl⟩⟩; refine ⟨_, rfl, ?_⟩; (try (rw [drewN_self w100]; generalize hq_ : World.drewN w100 _ = w100; have n0_ : Aside0 (w100.heap[gb549]? = some (.cells #[.int .i64 a0_0, .slice A0_1 l0_1.length c0_1] 24 (0, 0))) := ⟨by rw [← hq_]; exact (bk_ BK549.out)⟩; have n1_ : Aside0 (Below w.heap.size w w100) := ⟨by rw [← hq_]; exact (bl1_ HB.out GE549.out)⟩; clear BK549 HB hq_; have BK549 := n0_; have HB := n1_; clear n0_ n1_)); have hcz101_0 : w100.cell? ⟨gb549, 0, none⟩ = some (.int .i64 a0_0) := (blk_cell BK549.out 0).trans rfl; have hcz101_1 : w100.cell? ⟨gb549, 1, none⟩ = some (.slice A0_1 l0_1.length c0_1) := (blk_cell BK549.out 1).trans rfl; have hfz101_0 := blk_frozen BK549.out 0; have hfz101_1 := blk_frozen BK549.out 1) | ((with_reducible refine gate_callee (f := 16) rfl ?_); refine goesL_ (some 23) rfl rfl Try.func16 (by kernel_rfl) rfl #[.agg #[.int .i64 a0_0, .slice A0_1 l0_1.length c0_1]] rfl mp_ ?_; (with_reducible refine (laws_toTree.calls k a0_0 _ _ l0_1 t552 t553 _ ?side1 ?side2 A14.out).mono ?_); (case side1 => repeat (first | exact (Kd.C_below HR0_1.out HB.out) | (with_reducible refine Kd.C_alloc ?_ _) | (with_reducible refine Kd.C_drewN ?_ _) | (with_reducible refine Kd.C_drew ?_))); (case side2 => exact HC0_1.out); rintro e w102 ⟨v554, rfl, ho0, hb⟩; refine ⟨_, rfl, ?_⟩; have n0_ := Aside0.mk (Kd.R_lower ho0 (below_size (bl1_ HB.out GE549.out))); have n1_ := Aside0.mk (blk_below (g := gb549) (o := .cells #[.int .i64 a0_0, .slice A0_1 l0_1.length c0_1] 24 (0, 0)) (bk_ BK549.out) hb); have n2_ := Aside0.mk (below_step (bl1_ HB.out GE549.out) hb); clear BK549; clear HB; have HO555 := n0_; have BK549 := n1_; have HB := n2_; clear n0_ n1_ n2_; (try clear hb); (try clear hb2); (try clear hk); (try clear hi); (try clear ho0)) | ((with_reducible refine gate_callee (f := 38) rfl ?_); refine goesL_ (some 26) rfl rfl Try.func38 (by kernel_rfl) rfl #[.slice A2 l2.length c2] rfl mp_ ?_; (with_reducible refine (laws_toSpotS.calls k _ _ l2 t556 _ ?side1 ?side2 A15.out).mono ?_); (case side1 => repeat (first | exact (Kd.C_below HR2.out HB.out) | (with_reducible refine Kd.C_alloc ?_ _) | (with_reducible refine Kd.C_drewN ?_ _) | (with_reducible refine Kd.C_drew ?_))); (case side2 => exact HC2.out); rintro e w103 ⟨v557, rfl, ho0, hb⟩; refine ⟨_, rfl, ?_⟩; have n0_ := Aside0.mk (Kd.R_below (ra_ HO555.out) hb); have n1_ := Aside0.mk (Kd.R_lower ho0 (below_size (bl1_ HB.out GE549.out))); have n2_ := Aside0.mk (blk_below (g := gb549) (o := .cells #[.int .i64 a0_0, .slice A0_1 l0_1.length c0_1] 24 (0, 0)) (bk_ BK549.out) hb); have n3_ := Aside0.mk (below_step (bl1_ HB.out GE549.out) hb); clear HO555; clear BK549; clear HB; have HO555 := n0_; have HO558 := n1_; have BK549 := n2_; have HB := n3_; clear n0_ n1_ n2_ n3_; (try clear hb); (try clear hb2); (try clear hk); (try clear hi); (try clear ho0); obtain ⟨Ao104, co104, eo104⟩ := Kd.R_slice HO555.out; subst eo104; obtain ⟨Ao105, co105, eo105⟩ := Kd.R_slice HO558.out; subst eo105) | ((with_reducible refine gate_callee (f := 37) rfl ?_); refine goesL_ (some 27) rfl rfl Try.func37 (by kernel_rfl) rfl #[.agg #[.int .i64 t552, .slice Ao104 t553.length co104], .int .i64 a1, .slice Ao105 t556.length co105] rfl mp_ ?_; (with_reducible refine (spec_ValidPacking.calls k t552 _ _ t553 a1 _ _ t556 t559 _ ?side1 ?side2 ?side3 ?side4 A16.out).mono ?_); (case side1 => repeat (first | exact (Kd.R_reads' HO555.out).2.2 | (with_reducible refine Kd.C_alloc ?_ _) | (with_reducible refine Kd.C_drewN ?_ _) | (with_reducible refine Kd.C_drew ?_))); (case side2 => exact (Kd.R_reads' HO555.out).2.1); (case side3 => repeat (first | exact (Kd.R_reads' HO558.out).2.2 | (with_reducible refine Kd.C_alloc ?_ _) | (with_reducible refine Kd.C_drewN ?_ _) | (with_reducible refine Kd.C_drew ?_))); (case side4 => exact (Kd.R_reads' HO558.out).2.1); rintro e w106 ⟨rfl, hb⟩; refine ⟨_, rfl, ?_⟩; have n0_ := Aside0.mk (Kd.R_below (ra_ HO555.out) hb); have n1_ := Aside0.mk (Kd.R_below (ra_ HO558.out) hb); have n2_ := Aside0.mk (blk_below (g := gb549) (o := .cells #[.int .i64 a0_0, .slice A0_1 l0_1.length c0_1] 24 (0, 0)) (bk_ BK549.out) hb); have n3_ := Aside0.mk (below_step (bl1_ HB.out GE549.out) hb); clear HO555; clear HO558; clear BK549; clear HB; have HO555 := n0_; have HO558 := n1_; have BK549 := n2_; have HB := n3_; clear n0_ n1_ n2_ n3_; (try clear hb); (try clear hb2); (try clear hk); (try clear hi); have hcz107_0 : w106.cell? ⟨gb549, 0, none⟩ = some (.int .i64 a0_0) := (blk_cell BK549.out 0).trans rfl; have hcz107_1 : w106.cell? ⟨gb549, 1, none⟩ = some (.slice A0_1 l0_1.length c0_1) := (blk_cell BK549.out 1).trans rfl; have hfz107_0 := blk_frozen BK549.out 0; have hfz107_1 := blk_frozen BK549.out 1) | ((with_reducible refine gate_callee (f := 16) rfl ?_); refine goesL_ (some 29) rfl rfl Try.func16 (by kernel_rfl) rfl #[.agg #[.int .i64 a0_0, .slice A0_1 l0_1.length c0_1]] rfl mp_ ?_; (with_reducible refine (laws_toTree.calls k a0_0 _ _ l0_1 t560 t561 _ ?side1 ?side2 A17.out).mono ?_); (case side1 => repeat (first | exact (Kd.C_below HR0_1.out HB.out) | (with_reducible refine Kd.C_alloc ?_ _) | (with_reducible refine Kd.C_drewN ?_ _) | (with_reducible refine Kd.C_drew ?_))); (case side2 => exact HC0_1.out); rintro e w108 ⟨v562, rfl, ho0, hb⟩; refine ⟨_, rfl, ?_⟩; have n0_ := Aside0.mk (Kd.R_elder' (ra_ HO555.out) (Kd.R_base ho0) hb); have n1_ := Aside0.mk (Kd.R_below (ra_ HO558.out) hb); have n2_ := Aside0.mk (Kd.R_lower (Kd.R_new' ho0 (Kd.R_lt (ra_ HO555.out))) (below_size (bl1_ HB.out GE549.out))); have n3_ := Aside0.mk (blk_below (g := gb549) (o := .cells #[.int .i64 a0_0, .slice A0_1 l0_1.length c0_1] 24 (0, 0)) (bk_ BK549.out) hb); have n4_ := Aside0.mk (below_step (bl1_ HB.out GE549.out) hb); clear HO555; clear HO558; clear BK549; clear HB; have HO555 := n0_; have HO558 := n1_; have HO563 := n2_; have BK549 := n3_; have HB := n4_; clear n0_ n1_ n2_ n3_ n4_; (try clear hb); (try clear hb2); (try clear hk); (try clear hi); (try clear ho0)) | ((with_reducible refine gate_dst (N := 9) rfl ?_); refine box_event ?hg (N := 9) ?hd (cs := #[.int .i64 0, .slice none 0 0]) (t := 29) ?hr ?_; (case hd => rfl); (case hg => rfl); (case hr => first | (go_simp; done) | (go_simp; rfl)); intro gb564 hg w109 hbox hb; have n0_ := Aside0.mk (Kd.R_below (ra_ HO555.out) hb); have n1_ := Aside0.mk (Kd.R_below (ra_ HO558.out) hb); have n2_ := Aside0.mk (Kd.R_below (ra_ HO563.out) hb); have n3_ := Aside0.mk (blk_below (g := gb549) (o := .cells #[.int .i64 a0_0, .slice A0_1 l0_1.length c0_1] 24 (0, 0)) (bk_ BK549.out) hb); have n4_ := Aside0.mk (below_step (bl1_ HB.out GE549.out) hb); have n5_ := Aside0.mk (hbox); have n6_ := Aside0.mk ((by rw [hg]; exact (below_size (bl1_ HB.out GE549.out)) : w.heap.size ≤ gb564)); have n7_ := Aside0.mk ((by rw [hg]; exact (below_size (bl1_ HB.out GE549.out)) : w.heap.size ≤ gb564)); have n8_ := Aside0.mk ((by rw [hg]; exact Nat.ne_of_lt (blk_lt (bk_ BK549.out)) : gb549 ≠ gb564)); have n9_ := Aside0.mk ((by rw [hg]; exact Nat.ne_of_gt (blk_lt (bk_ BK549.out)) : gb564 ≠ gb549)); clear HO555; clear HO558; clear HO563; clear BK549; clear HB; have HO555 := n0_; have HO558 := n1_; have HO563 := n2_; have BK549 := n3_; have HB := n4_; have BK564 := n5_; have GW564 := n6_; have GE564 := n7_; have NB549_564 := n8_; have NB564_549 := n9_; clear n0_ n1_ n2_ n3_ n4_ n5_ n6_ n7_ n8_ n9_; clear hb hbox hg; have hnb110 := NB564_549.out; have hnc110 := NB549_564.out; have hcz111_0 : w109.cell? ⟨gb564, 0, none⟩ = some (.int .i64 0) := (blk_cell BK564.out 0).trans rfl; have hcz111_1 : w109.cell? ⟨gb564, 1, none⟩ = some (.slice none 0 0) := (blk_cell BK564.out 1).trans rfl; have hfz111_0 := blk_frozen BK564.out 0; have hfz111_1 := blk_frozen BK564.out 1; obtain ⟨Ao112, co112, eo112⟩ := Kd.R_slice HO563.out; subst eo112) | ((with_reducible refine gate_callee (f := 38) rfl ?_); refine goesL_ (some 31) rfl rfl Try.func38 (by kernel_rfl) rfl #[.slice A2 l2.length c2] rfl mp_ ?_; (with_reducible refine (laws_toSpotS.calls k _ _ l2 t565 _ ?side1 ?side2 A18.out).mono ?_); (case side1 => exact Kd.C_below HR2.out (bl2_ HB.out GE549.out GE564.out)); (case side2 => exact HC2.out); rintro e w113 ⟨v566, rfl, ho0, hb⟩; refine ⟨_, rfl, ?_⟩; have n0_ := Aside0.mk (Kd.R_below (by (with_reducible repeat (first | apply Kd.R_alloc | apply Kd.R_drewN | apply Kd.R_drew)); exact (Kd.R_mono (Kd.R_far (p := ⟨gb564, 1, none⟩) (Kd.R_far (p := ⟨gb564, 0, none⟩) (Kd.R_types HO555.out BK564.out (by decide)) (fun _ hk => hk.2) (.int .i64 t560)) (fun _ hk => hk.2) (.slice Ao112 t561.length co112)) (fun _ h_ => h_.1))) hb); have n1_ := Aside0.mk (Kd.R_elder' (by (with_reducible repeat (first | apply Kd.R_alloc | apply Kd.R_drewN | apply Kd.R_drew)); exact (Kd.R_mono (Kd.R_far (p := ⟨gb564, 1, none⟩) (Kd.R_far (p := ⟨gb564, 0, none⟩) (Kd.R_types HO558.out BK564.out (by decide)) (fun _ hk => hk.2) (.int .i64 t560)) (fun _ hk => hk.2) (.slice Ao112 t561.length co112)) (fun _ h_ => h_.1))) (Kd.R_base ho0) hb); have n2_ := Aside0.mk (Kd.R_below (by (with_reducible repeat (first | apply Kd.R_alloc | apply Kd.R_drewN | apply Kd.R_drew)); exact (Kd.R_mono (Kd.R_far (p := ⟨gb564, 1, none⟩) (Kd.R_far (p := ⟨gb564, 0, none⟩) (Kd.R_types HO563.out BK564.out (by decide)) (fun _ hk => hk.2) (.int .i64 t560)) (fun _ hk => hk.2) (.slice Ao112 t561.length co112)) (fun _ h_ => h_.1))) hb); have n3_ := Aside0.mk (Kd.R_lower (Kd.R_new' ho0 (Kd.R_lt (by (with_reducible repeat (first | apply Kd.R_alloc | apply Kd.R_drewN | apply Kd.R_drew)); exact (Kd.R_mono (Kd.R_far (p := ⟨gb564, 1, none⟩) (Kd.R_far (p := ⟨gb564, 0, none⟩) (Kd.R_types HO558.out BK564.out (by decide)) (fun _ hk => hk.2) (.int .i64 t560)) (fun _ hk => hk.2) (.slice Ao112 t561.length co112)) (fun _ h_ => h_.1))))) (below_size (bl2_ HB.out GE549.out GE564.out))); have n4_ := Aside0.mk (blk_below (g := gb549) (o := .cells #[.int .i64 a0_0, .slice A0_1 l0_1.length c0_1] 24 (0, 0)) (by (with_reducible repeat (first | refine blk_drewN ?_ _ | refine blk_drew ?_ | refine blk_alloc ?_ _)); refine blk_far ?_ NB549_564.out _; (with_reducible repeat (first | refine blk_drewN ?_ _ | refine blk_drew ?_ | refine blk_alloc ?_ _)); refine blk_far ?_ NB549_564.out _; (with_reducible repeat (first | refine blk_drewN ?_ _ | refine blk_drew ?_ | refine blk_alloc ?_ _)); exact BK549.out) hb); have n5_ := Aside0.mk (blk_below (g := gb564) (o := .cells #[.int .i64 t560, .slice Ao112 t561.length co112] 29 (0, 0)) (by (with_reducible repeat (first | refine blk_drewN ?_ _ | refine blk_drew ?_ | refine blk_alloc ?_ _)); refine blk_put (cs := #[.int .i64 t560, .slice none 0 0]) ?_ 1 _ rfl; (with_reducible repeat (first | refine blk_drewN ?_ _ | refine blk_drew ?_ | refine blk_alloc ?_ _)); refine blk_put (cs := #[.int .i64 0, .slice none 0 0]) ?_ 0 _ rfl; (with_reducible repeat (first | refine blk_drewN ?_ _ | refine blk_drew ?_ | refine blk_alloc ?_ _)); exact BK564.out) hb); have n6_ := Aside0.mk (below_step (bl2_ HB.out GE549.out GE564.out) hb); clear HO555; clear HO558; clear HO563; clear BK549; clear BK564; clear HB; have HO555 := n0_; have HO558 := n1_; have HO563 := n2_; have HO567 := n3_; have BK549 := n4_; have BK564 := n5_; have HB := n6_; clear n0_ n1_ n2_ n3_ n4_ n5_ n6_; (try clear hb); (try clear hb2); (try clear hk); (try clear hi); (try clear ho0); have hcz114_0 : w113.cell? ⟨gb564, 0, none⟩ = some (.int .i64 t560) := (blk_cell BK564.out 0).trans rfl; have hcz114_1 : w113.cell? ⟨gb564, 1, none⟩ = some (.slice Ao112 t561.length co112) := (blk_cell BK564.out 1).trans rfl; have hfz114_0 := blk_frozen BK564.out 0; have hfz114_1 := blk_frozen BK564.out 1; obtain ⟨Ao115, co115, eo115⟩ := Kd.R_slice HO567.out; subst eo115) | ((with_reducible refine gate_callee (f := 39) rfl ?_); refine goesL_ (some 35) rfl rfl Try.func39 (by kernel_rfl) rfl #[.agg #[.int .i64 t560, .slice Ao112 t561.length co112], .int .i64 a1, .slice Ao115 t565.length co115] rfl mp_ ?_; (with_reducible refine (impl_ValidPacking.calls k t560 _ _ t561 a1 _ _ t565 t568 _ ?side1 ?side2 ?side3 ?side4 A19.out).mono ?_); (case side1 => repeat (first | exact (Kd.R_reads' HO563.out).2.2 | (with_reducible refine Kd.C_alloc ?_ _) | (with_reducible refine Kd.C_drewN ?_ _) | (with_reducible refine Kd.C_drew ?_))); (case side2 => exact (Kd.R_reads' HO563.out).2.1); (case side3 => repeat (first | exact (Kd.R_reads' HO567.out).2.2 | (with_reducible refine Kd.C_alloc ?_ _) | (with_reducible refine Kd.C_drewN ?_ _) | (with_reducible refine Kd.C_drew ?_))); (case side4 => exact (Kd.R_reads' HO567.out).2.1); rintro e w116 ⟨rfl, hb⟩; refine ⟨_, rfl, ?_⟩; have n0_ := Aside0.mk (Kd.R_below (ra_ HO555.out) hb); have n1_ := Aside0.mk (Kd.R_below (ra_ HO558.out) hb); have n2_ := Aside0.mk (Kd.R_below (ra_ HO563.out) hb); have n3_ := Aside0.mk (Kd.R_below (ra_ HO567.out) hb); have n4_ := Aside0.mk (blk_below (g := gb549) (o := .cells #[.int .i64 a0_0, .slice A0_1 l0_1.length c0_1] 24 (0, 0)) (bk_ BK549.out) hb); have n5_ := Aside0.mk (blk_below (g := gb564) (o := .cells #[.int .i64 t560, .slice Ao112 t561.length co112] 29 (0, 0)) (bk_ BK564.out) hb); have n6_ := Aside0.mk (below_step (bl2_ HB.out GE549.out GE564.out) hb); clear HO555; clear HO558; clear HO563; clear HO567; clear BK549; clear BK564; clear HB; have HO555 := n0_; have HO558 := n1_; have HO563 := n2_; have HO567 := n3_; have BK549 := n4_; have BK564 := n5_; have HB := n6_; clear n0_ n1_ n2_ n3_ n4_ n5_ n6_; (try clear hb); (try clear hb2); (try clear hk); (try clear hi)))
     have n0_ := Aside0.mk (Kd.R_drew HO555.out)
     have n1_ := Aside0.mk (Kd.R_drew HO558.out)
     have n2_ := Aside0.mk (Kd.R_drew HO563.out)
     have n3_ := Aside0.mk (Kd.R_drew HO567.out)
     have n4_ := Aside0.mk (blk_drew BK549.out)
     have n5_ := Aside0.mk (blk_drew BK564.out)
     have n6_ := Aside0.mk (below_drew1 HB.out)
     clear HO555
     clear HO558
     clear HO563
     clear HO567
     clear BK549
     clear BK564
     clear HB
     have HO555 := n0_
     have HO558 := n1_
     have HO563 := n2_
     have HO567 := n3_
     have BK549 := n4_
     have BK564 := n5_
     have HB := n6_
     clear n0_ n1_ n2_ n3_ n4_ n5_ n6_
     refine start_ (n := 5) (S := fun w' => w'.cell? ⟨gb564, 0, none⟩ = some (.int .i64 t560) ∧ w'.cell? ⟨gb564, 1, none⟩ = some (.slice Ao112 t561.length co112) ∧ w'.cell? ⟨gb549, 0, none⟩ = some (.int .i64 a0_0) ∧ w'.cell? ⟨gb549, 1, none⟩ = some (.slice A0_1 l0_1.length c0_1)) (ds := []) #[false, false, false, false, false] (by kernel_rfl) rfl rfl ⟨(blk_cell BK564.out 0).trans rfl, (blk_cell BK564.out 1).trans rfl, (blk_cell BK549.out 0).trans rfl, (blk_cell BK549.out 1).trans rfl⟩ (fun hHeld => ?_)
     generalize w116.drew = w117 at HO555 HO558 HO563 HO567 BK549 BK564 HB hHeld ⊢
     refine take_ (i := 0) (N := some 39) (v := ?_) (a' := ?_) #[true, false, false, false, false] rfl rfl (by kernel_rfl) (fun _ _ _ h => h) (Or.inl ⟨by rfl, ?_⟩) hHeld ?_ ?_
     rotate_left
     ·rintro w' ⟨s0, s1, s2, s3⟩
      go_simp
      with_reducible rfl
     rotate_left
     ·simp only [Act.put, List.setIfInBounds_toArray, List.set_cons_zero, List.set_cons_succ, i64_w, i32_w]
      rfl
     refine take_ (i := 1) (N := some 40) (v := ?_) (a' := ?_) #[true, true, false, false, false] rfl rfl (by kernel_rfl) (fun _ _ _ h => h) (Or.inl ⟨by rfl, ?_⟩) hHeld ?_ ?_
     rotate_left
     ·rintro w' ⟨s0, s1, s2, s3⟩
      go_simp
      with_reducible rfl
     rotate_left
     ·simp only [Act.put, List.setIfInBounds_toArray, List.set_cons_zero, List.set_cons_succ, i64_w, i32_w]
      rfl
     refine one_ (i := 2) (N := some 41) #[true, true, true, false, false] rfl rfl (by kernel_rfl) (by decide) (fun K hK => ?_)
     refine goes_ Try.func16 (by kernel_rfl) rfl #[.agg #[.int .i64 a0_0, .slice A0_1 l0_1.length c0_1]] (by rfl) rfl rfl mp_ ?_
     with_reducible refine (laws_toTree.calls k a0_0 _ _ l0_1 t569 t570 _ ?side1 ?side2 A40.out).mono ?_
     (case side1 => repeat (first | exact (Kd.C_below HR0_1.out HB.out) | (with_reducible refine Kd.C_alloc ?_ _) | (with_reducible refine Kd.C_drewN ?_ _) | (with_reducible refine Kd.C_drew ?_)))
     (case side2 => exact HC0_1.out)
     rintro e w118 ⟨v571, rfl, ho0, hb⟩
     refine ⟨_, rfl, ?_⟩
     have n0_ := Aside0.mk (Kd.R_elder' (ra_ HO555.out) (Kd.R_base ho0) hb)
     have n1_ := Aside0.mk (Kd.R_below (ra_ HO558.out) hb)
     have n2_ := Aside0.mk (Kd.R_elder' (ra_ HO563.out) (Kd.R_base ho0) hb)
     have n3_ := Aside0.mk (Kd.R_below (ra_ HO567.out) hb)
     have n4_ := Aside0.mk (Kd.R_lower (Kd.R_new' (Kd.R_new' ho0 (Kd.R_lt (ra_ HO555.out))) (Kd.R_lt (ra_ HO563.out))) (below_size (bl2_ HB.out GE549.out GE564.out)))
     have n5_ := Aside0.mk (blk_below (g := gb549) (o := .cells #[.int .i64 a0_0, .slice A0_1 l0_1.length c0_1] 24 (0, 0)) (bk_ BK549.out) hb)
     have n6_ := Aside0.mk (blk_below (g := gb564) (o := .cells #[.int .i64 t560, .slice Ao112 t561.length co112] 29 (0, 0)) (bk_ BK564.out) hb)
     have n7_ := Aside0.mk (below_step (bl2_ HB.out GE549.out GE564.out) hb)
     clear HO555
     clear HO558
     clear HO563
     clear HO567
     clear BK549
     clear BK564
     clear HB
     have HO555 := n0_
     have HO558 := n1_
     have HO563 := n2_
     have HO567 := n3_
     have HO572 := n4_
     have BK549 := n5_
     have BK564 := n6_
     have HB := n7_
     clear n0_ n1_ n2_ n3_ n4_ n5_ n6_ n7_
     (try clear hb)
     (try clear hb2)
     (try clear hk)
     (try clear hi)
     (try clear ho0)
     obtain ⟨Ao119, co119, eo119⟩ := Kd.R_slice HO572.out
     (first | subst eo119 | (injection eo119 with f1_ f2_ f3_; have f4_ := f1_.symm; have f5_ := f3_.symm; clear f1_ f2_ f3_; subst f4_; subst f5_))
     refine hK.out _ _ ⟨(blk_cell BK564.out 0).trans rfl, (blk_cell BK564.out 1).trans rfl, (blk_cell BK549.out 0).trans rfl, (blk_cell BK549.out 1).trans rfl⟩ (fun hHeld => ?_)
     clear hK K
     refine norm_ (a' := ?_) ?_ ?_
     rotate_left
     ·show Act.put _ (some 41) _ = _
      simp only [Act.put, List.setIfInBounds_toArray, List.set_cons_zero, List.set_cons_succ, i64_w, i32_w]
      rfl
     refine one_ (i := 3) (N := some 42) #[true, true, true, true, false] rfl rfl (by kernel_rfl) (by decide) (fun K hK => ?_)
     refine goes_ Try.func18 (by kernel_rfl) rfl #[.agg #[.int .i64 t560, .slice Ao112 t561.length co112], .agg #[.int .i64 t569, .slice Ao119 t570.length co119]] (by rfl) rfl rfl mp_ ?_
     with_reducible refine (laws_eqTree.calls k t560 _ _ t561 t569 _ _ t570 false _ ?side1 ?side2 ?side3 ?side4 A41.out).mono ?_
     (case side1 => repeat (first | exact (Kd.R_reads' HO563.out).2.2 | (with_reducible refine Kd.C_alloc ?_ _) | (with_reducible refine Kd.C_drewN ?_ _) | (with_reducible refine Kd.C_drew ?_)))
     (case side2 => exact (Kd.R_reads' HO563.out).2.1)
     (case side3 => repeat (first | exact (Kd.R_reads' HO572.out).2.2 | (with_reducible refine Kd.C_alloc ?_ _) | (with_reducible refine Kd.C_drewN ?_ _) | (with_reducible refine Kd.C_drew ?_)))
     (case side4 => exact (Kd.R_reads' HO572.out).2.1)
     rintro e w120 ⟨rfl, hb⟩
     refine ⟨_, rfl, ?_⟩
     have n0_ := Aside0.mk (Kd.R_below (ra_ HO555.out) hb)
     have n1_ := Aside0.mk (Kd.R_below (ra_ HO558.out) hb)
     have n2_ := Aside0.mk (Kd.R_below (ra_ HO563.out) hb)
     have n3_ := Aside0.mk (Kd.R_below (ra_ HO567.out) hb)
     have n4_ := Aside0.mk (Kd.R_below (ra_ HO572.out) hb)
     have n5_ := Aside0.mk (blk_below (g := gb549) (o := .cells #[.int .i64 a0_0, .slice A0_1 l0_1.length c0_1] 24 (0, 0)) (bk_ BK549.out) hb)
     have n6_ := Aside0.mk (blk_below (g := gb564) (o := .cells #[.int .i64 t560, .slice Ao112 t561.length co112] 29 (0, 0)) (bk_ BK564.out) hb)
     have n7_ := Aside0.mk (below_step (bl2_ HB.out GE549.out GE564.out) hb)
     clear HO555
     clear HO558
     clear HO563
     clear HO567
     clear HO572
     clear BK549
     clear BK564
     clear HB
     have HO555 := n0_
     have HO558 := n1_
     have HO563 := n2_
     have HO567 := n3_
     have HO572 := n4_
     have BK549 := n5_
     have BK564 := n6_
     have HB := n7_
     clear n0_ n1_ n2_ n3_ n4_ n5_ n6_ n7_
     (try clear hb)
     (try clear hb2)
     (try clear hk)
     (try clear hi)
     refine hK.out _ _ ⟨(blk_cell BK564.out 0).trans rfl, (blk_cell BK564.out 1).trans rfl, (blk_cell BK549.out 0).trans rfl, (blk_cell BK549.out 1).trans rfl⟩ (fun hHeld => ?_)
     clear hK K
     refine norm_ (a' := ?_) ?_ ?_
     rotate_left
     ·show Act.put _ (some 42) _ = _
      simp only [Act.put, List.setIfInBounds_toArray, List.set_cons_zero, List.set_cons_succ, i64_w, i32_w]
      rfl
     refine pure_ (i := 4) (N := some 43) (v := ?_) (a' := ?_) #[true, true, true, true, true] rfl rfl (by kernel_rfl) (fun _ _ _ h => h) (Or.inl ⟨by rfl, ?_⟩) ?_ ?_
     rotate_left
     ·intro w'
      go_simp
      with_reducible rfl
     rotate_left
     ·simp only [Act.put, List.setIfInBounds_toArray, List.set_cons_zero, List.set_cons_succ, i64_w, i32_w]
      rfl
     refine done_ (by kernel_rfl) ?_
     try go_wp2
     go_ret
     exact ⟨by first | rfl | (simp [errW_none, errW_some] <;> rfl) | (simp [*, errW_none, errW_some] <;> rfl), by repeat (first | (with_reducible first | exact HB.out | apply below_alloc | apply pw_below_drewN | apply below_drew1 | refine below_set ?_ GE549.out | refine below_set ?_ GE564.out) | exact HB.out)⟩

end Go.Proofs.Ytnbhnkpefhdgjaa.H
