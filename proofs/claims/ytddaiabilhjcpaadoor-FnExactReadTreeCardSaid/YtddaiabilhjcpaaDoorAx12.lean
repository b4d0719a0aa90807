/- For functions of the translation: a Lean function each, and that the call of the Go function comes to its answer. Written by this session's own program (myprint.py, over the kit's printer). -/
import Derived.Test.YtddaiabilhjcpaaDoorAx0
import Derived.Test.YtddaiabilhjcpaaDoorAx5
import Derived.Test.YtddaiabilhjcpaaDoorAx10
import Derived.Test.YtddaiabilhjcpaaDoorAx11
--compacted
namespace Go.Proofs.YtddaiabilhjcpaaDoor.A
open Go.RowKit Go.Proofs.YtddaiabilhjcpaaDoorW.PrintWords Go.Proofs.YtddaiabilhjcpaaDoorW.PrintLast Go.Proofs.YtddaiabilhjcpaaDoorW.PrintMore
attribute [local go_sem] max2_int min2_int max_two min_two max_three min_three max_four min_four   -- for this text's walks alone
set_option linter.unusedVariables false
set_option linter.unusedSimpArgs false

/-! ### laws_FnExactReadTree: function 4 -/
mutual
def laws_FnExactReadTree.j0 : Nat → ByteArray → Bool → Bool → Int → List (S52) → Int → List (S52) → Option (Bool)
 | 0, _, _, _, _, _, _, _ => none
 | k + 1, x0, x4, x32, x318000, x318001, x324000, x324001 => if x32 = true then (some false) else ((laws_markTree.f k x324000 x324001 1).bind fun bt325 => ((laws_heldTree.f k x324000 bt325.2 1).bind fun t327 => (if t327 < 0 then (some false) else (if t327 = bt325.1 then ((impl_ReadTree.f k x0).bind fun bt328 => ((laws_eqTree.f k bt328.1 bt328.2.1 x318000 x318001).bind fun t334 => (if t334 = true then (laws_FnExactReadTree.j1 k bt325.1 (bt328.2.2 != x4) x324000 bt325.2) else (laws_FnExactReadTree.j1 k bt325.1 true x324000 bt325.2)))) else (some false)))))
def laws_FnExactReadTree.j1 : Nat → Int → Bool → Int → List (S52) → Option (Bool)
 | 0, _, _, _, _ => none
 | k + 1, x7, x57, x324000, x324001 => if x57 = true then (some false) else ((laws_heldTree.f k x324000 x324001 1).bind fun t335 => (if t335 < 0 then (some false) else (if t335 = x7 then (some true) else (some false))))
end
def laws_FnExactReadTree.f (k : Nat) (a0 : ByteArray) : Option (Bool) := if (a0.size : Int) > 1048576 then (some true) else ((spec_ReadTree.f k a0).bind fun bt312 => ((impl_ReadTree.f k a0).bind fun bt318 => ((laws_eqTree.f k bt318.1 bt318.2.1 bt312.1 bt312.2.1).bind fun t324 => (if t324 = true then (laws_FnExactReadTree.j0 k a0 bt312.2.2 (bt318.2.2 != bt312.2.2) bt312.1 bt312.2.1 bt318.1 bt318.2.1) else (laws_FnExactReadTree.j0 k a0 bt312.2.2 true bt312.1 bt312.2.1 bt318.1 bt318.2.1)))))
theorem laws_FnExactReadTree.mono_l : ∀ k, (∀ y0 y1 y2 y3 y4 y5 y6, LeO (laws_FnExactReadTree.j0 k y0 y1 y2 y3 y4 y5 y6) (laws_FnExactReadTree.j0 (k + 1) y0 y1 y2 y3 y4 y5 y6)) ∧ (∀ y0 y1 y2 y3, LeO (laws_FnExactReadTree.j1 k y0 y1 y2 y3) (laws_FnExactReadTree.j1 (k + 1) y0 y1 y2 y3))
 | 0 => ⟨fun _ _ _ _ _ _ _ r h => by simp [laws_FnExactReadTree.j0] at h, fun _ _ _ _ r h => by simp [laws_FnExactReadTree.j1] at h⟩
 | k + 1 => by
  obtain ⟨ih0, ih1⟩ := laws_FnExactReadTree.mono_l k
  refine ⟨?_, ?_⟩
  ·intro y0 y1 y2 y3 y4 y5 y6
   unfold laws_FnExactReadTree.j0
   repeat' first
   | (with_reducible exact ih0 _ _ _ _ _ _ _)
   | (with_reducible exact ih1 _ _ _ _)
   | (with_reducible exact impl_ReadTree.mono _ _)
   | (with_reducible exact laws_eqTree.mono _ _ _ _ _)
   | (with_reducible exact laws_heldTree.mono _ _ _ _)
   | (with_reducible exact laws_markTree.mono _ _ _ _)
   | (with_reducible exact spec_ReadTree.mono _ _)
   | (with_reducible exact LeO.refl _)
   | (with_reducible exact LeO.none _)
   | (with_reducible refine LeO.ite ?_ ?_)
   | (with_reducible refine LeO.bind ?_ (fun _ => ?_))
   | exact impl_ReadTree.mono _ _
   | exact laws_eqTree.mono _ _ _ _ _
   | exact laws_heldTree.mono _ _ _ _
   | exact laws_markTree.mono _ _ _ _
   | exact spec_ReadTree.mono _ _
   | exact LeO.none _
   | refine LeO.ite ?_ ?_
   | refine LeO.bind ?_ (fun _ => ?_)
  ·intro y0 y1 y2 y3
   unfold laws_FnExactReadTree.j1
   repeat' first
   | (with_reducible exact ih0 _ _ _ _ _ _ _)
   | (with_reducible exact ih1 _ _ _ _)
   | (with_reducible exact impl_ReadTree.mono _ _)
   | (with_reducible exact laws_eqTree.mono _ _ _ _ _)
   | (with_reducible exact laws_heldTree.mono _ _ _ _)
   | (with_reducible exact laws_markTree.mono _ _ _ _)
   | (with_reducible exact spec_ReadTree.mono _ _)
   | (with_reducible exact LeO.refl _)
   | (with_reducible exact LeO.none _)
   | (with_reducible refine LeO.ite ?_ ?_)
   | (with_reducible refine LeO.bind ?_ (fun _ => ?_))
   | exact impl_ReadTree.mono _ _
   | exact laws_eqTree.mono _ _ _ _ _
   | exact laws_heldTree.mono _ _ _ _
   | exact laws_markTree.mono _ _ _ _
   | exact spec_ReadTree.mono _ _
   | exact LeO.none _
   | refine LeO.ite ?_ ?_
   | refine LeO.bind ?_ (fun _ => ?_)
theorem laws_FnExactReadTree.mono : ∀ a0 k, LeO (laws_FnExactReadTree.f k a0) (laws_FnExactReadTree.f (k + 1) a0) := by
 intro a0 k
 obtain ⟨ih0, ih1⟩ := laws_FnExactReadTree.mono_l k
 unfold laws_FnExactReadTree.f
 repeat' first
   | (with_reducible exact ih0 _ _ _ _ _ _ _)
   | (with_reducible exact ih1 _ _ _ _)
   | (with_reducible exact impl_ReadTree.mono _ _)
   | (with_reducible exact laws_eqTree.mono _ _ _ _ _)
   | (with_reducible exact laws_heldTree.mono _ _ _ _)
   | (with_reducible exact laws_markTree.mono _ _ _ _)
   | (with_reducible exact spec_ReadTree.mono _ _)
   | (with_reducible exact LeO.refl _)
   | (with_reducible exact LeO.none _)
   | (with_reducible refine LeO.ite ?_ ?_)
   | (with_reducible refine LeO.bind ?_ (fun _ => ?_))
   | exact impl_ReadTree.mono _ _
   | exact laws_eqTree.mono _ _ _ _ _
   | exact laws_heldTree.mono _ _ _ _
   | exact laws_markTree.mono _ _ _ _
   | exact spec_ReadTree.mono _ _
   | exact LeO.none _
   | refine LeO.ite ?_ ?_
   | refine LeO.bind ?_ (fun _ => ?_)
set_option maxHeartbeats 8000000 in
set_option maxRecDepth 100000 in
theorem laws_FnExactReadTree.calls (k : Nat) (a0 : ByteArray) (r : Bool) (w : World) (hL : LaidW w) (h : laws_FnExactReadTree.f k a0 = some r) :
  Calls Tryd.prog 4 #[.string a0] w fun e w' => e = .returned (.bool r) ∧ Below w.heap.size w w' := by
 have hu26 := Tryd.underlying26
 have HLW := Aside0.mk hL
 clear hL
 have HB := Aside0.mk (Below.refl w.heap.size w)
 have H : (if (a0.size : Int) > 1048576 then (some true) else ((spec_ReadTree.f k a0).bind fun bt312 => ((impl_ReadTree.f k a0).bind fun bt318 => ((laws_eqTree.f k bt318.1 bt318.2.1 bt312.1 bt312.2.1).bind fun t324 => (if t324 = true then (laws_FnExactReadTree.j0 k a0 bt312.2.2 (bt318.2.2 != bt312.2.2) bt312.1 bt312.2.1 bt318.1 bt318.2.1) else (laws_FnExactReadTree.j0 k a0 bt312.2.2 true bt312.1 bt312.2.1 bt318.1 bt318.2.1)))))) = some r := h
 clear h
 by_cases c2 : (a0.size : Int) > 1048576
 ·rw [if_pos c2] at H
  have c2b0 : decide (1048576 < (a0.size : Int)) = true := decide_eq_true c2
  have c2b1 : decide (1048576 < a0.size) = true := decide_eq_true (by omega)
  clear c2
  obtain rfl := Option.some.inj H
  go_enter Tryd.func4, Tryd.ntmps4
  go_wp2
  go_ret
  exact ⟨re_, bl0_ HB.out⟩
 ·rw [if_neg c2] at H
  have c2b0 : decide (1048576 < (a0.size : Int)) = false := decide_eq_false c2
  have c2b1 : decide (1048576 < a0.size) = false := decide_eq_false (by omega)
  clear c2
  replace H := Option.bind_eq_some_iff.mp H
  obtain ⟨⟨t312, t313, t316⟩, A30, H⟩ := H
  replace H : ((impl_ReadTree.f k a0).bind fun bt318 => ((laws_eqTree.f k bt318.1 bt318.2.1 t312 t313).bind fun t324 => (if t324 = true then (laws_FnExactReadTree.j0 k a0 t316 (bt318.2.2 != t316) t312 t313 bt318.1 bt318.2.1) else (laws_FnExactReadTree.j0 k a0 t316 true t312 t313 bt318.1 bt318.2.1)))) = some r := H
  have A3 := Aside0.mk A30
  clear A30
  replace H := Option.bind_eq_some_iff.mp H
  obtain ⟨⟨t318, t319, t322⟩, A40, H⟩ := H
  replace H : ((laws_eqTree.f k t318 t319 t312 t313).bind fun t324 => (if t324 = true then (laws_FnExactReadTree.j0 k a0 t316 (t322 != t316) t312 t313 t318 t319) else (laws_FnExactReadTree.j0 k a0 t316 true t312 t313 t318 t319))) = some r := H
  have A4 := Aside0.mk A40
  clear A40
  have HC5 := Aside0.mk H
  clear H
  go_enter Tryd.func4, Tryd.ntmps4
  go_upto_region 5 with (first | ((with_reducible refine gate_callee (f := 15) rfl ?_); refine goesL_ (some 16) rfl rfl Tryd.func15 (by kernel_rfl) rfl #[.string a0] rfl mp_ ?_; (with_reducible refine (spec_ReadTree.calls k a0 t312 t313 t316 _ A3.out).mono ?_); rintro e w6 ⟨v314, rfl, ho0, hb⟩; refine ⟨_, rfl, ?_⟩; have n0_ := Aside0.mk (Kd.R_lower ho0 (below_size (bl0_ HB.out))); have n1_ := Aside0.mk (below_step (bl0_ HB.out) hb); clear HB; have HO315 := n0_; have HB := n1_; clear n0_ n1_; (try clear hb); (try clear hb2); (try clear hk); (try clear hi); (try clear ho0)) | ((with_reducible refine gate_dst (N := 3) rfl ?_); refine box_event ?hg (N := 3) ?hd (cs := #[.int .i64 0, .slice none 0 0]) (t := 26) ?hr ?_; (case hd => rfl); (case hg => rfl); (case hr => first | (go_simp; done) | (go_simp; rfl)); intro gb317 hg w7 hbox hb; have n0_ := Aside0.mk (Kd.R_below (ra_ HO315.out) hb); have n1_ := Aside0.mk (below_step (bl0_ HB.out) hb); have n2_ := Aside0.mk (hbox); have n3_ := Aside0.mk ((by rw [hg]; exact (below_size (bl0_ HB.out)) : w.heap.size ≤ gb317)); have n4_ := Aside0.mk ((by rw [hg]; exact (below_size (bl0_ HB.out)) : w.heap.size ≤ gb317)); clear HO315; clear HB; have HO315 := n0_; have HB := n1_; have BK317 := n2_; have GW317 := n3_; have GE317 := n4_; clear n0_ n1_ n2_ n3_ n4_; clear hb hbox hg; obtain ⟨hcz8_0, hcz8_1, hfz8_0, hfz8_1⟩ := cz2_ BK317.out; obtain ⟨Ao9, co9, eo9⟩ := Kd.R_slice HO315.out; subst eo9) | ((with_reducible refine gate_callee (f := 7) rfl ?_); refine goesL_ (some 21) rfl rfl Tryd.func7 (by kernel_rfl) rfl #[.string a0] rfl mp_ ?_; (with_reducible refine (impl_ReadTree.calls k a0 t318 t319 t322 _ ?side1 A4.out).mono ?_); (case side1 => refine LaidW.below HLW.out ?_; repeat (first | (with_reducible first | exact HB.out | apply below_alloc | apply pw_below_drewN | apply below_drew1 | refine below_set ?_ GE317.out) | exact HB.out)); rintro e w10 ⟨v320, rfl, ho0, hb⟩; refine ⟨_, rfl, ?_⟩; have n0_ := Aside0.mk (Kd.R_elder' (by (with_reducible repeat (first | apply Kd.R_alloc | apply Kd.R_drewN | apply Kd.R_drew)); exact (Kd.R_mono (Kd.R_far (p := ⟨gb317, 1, none⟩) (Kd.R_far (p := ⟨gb317, 0, none⟩) (Kd.R_types HO315.out BK317.out (by decide)) (fun _ hk => hk.2) (.int .i64 t312)) (fun _ hk => hk.2) (.slice Ao9 t313.length co9)) (fun _ h_ => h_.1))) (Kd.R_base ho0) hb); have n1_ := Aside0.mk (Kd.R_lower (Kd.R_new' ho0 (Kd.R_lt (by (with_reducible repeat (first | apply Kd.R_alloc | apply Kd.R_drewN | apply Kd.R_drew)); exact (Kd.R_mono (Kd.R_far (p := ⟨gb317, 1, none⟩) (Kd.R_far (p := ⟨gb317, 0, none⟩) (Kd.R_types HO315.out BK317.out (by decide)) (fun _ hk => hk.2) (.int .i64 t312)) (fun _ hk => hk.2) (.slice Ao9 t313.length co9)) (fun _ h_ => h_.1))))) (below_size (bl1_ HB.out GE317.out))); have n2_ := Aside0.mk (blk_below (g := gb317) (o := .cells #[.int .i64 t312, .slice Ao9 t313.length co9] 26 (0, 0)) (by (with_reducible repeat (first | refine blk_drewN ?_ _ | refine blk_drew ?_ | refine blk_alloc ?_ _)); refine blk_put (cs := #[.int .i64 t312, .slice none 0 0]) ?_ 1 _ rfl; (with_reducible repeat (first | refine blk_drewN ?_ _ | refine blk_drew ?_ | refine blk_alloc ?_ _)); refine blk_put (cs := #[.int .i64 0, .slice none 0 0]) ?_ 0 _ rfl; (with_reducible repeat (first | refine blk_drewN ?_ _ | refine blk_drew ?_ | refine blk_alloc ?_ _)); exact BK317.out) hb); have n3_ := Aside0.mk (below_step (bl1_ HB.out GE317.out) hb); clear HO315; clear BK317; clear HB; have HO315 := n0_; have HO321 := n1_; have BK317 := n2_; have HB := n3_; clear n0_ n1_ n2_ n3_; (try clear hb); (try clear hb2); (try clear hk); (try clear hi); (try clear ho0)) | ((with_reducible refine gate_dst (N := 5) rfl ?_); refine box_event ?hg (N := 5) ?hd (cs := #[.int .i64 0, .slice none 0 0]) (t := 26) ?hr ?_; (case hd => rfl); (case hg => rfl); (case hr => first | (go_simp; done) | (go_simp; rfl)); intro gb323 hg w11 hbox hb; have n0_ := Aside0.mk (Kd.R_below (ra_ HO315.out) hb); have n1_ := Aside0.mk (Kd.R_below (ra_ HO321.out) hb); have n2_ := Aside0.mk (blk_below (g := gb317) (o := .cells #[.int .i64 t312, .slice Ao9 t313.length co9] 26 (0, 0)) (bk_ BK317.out) hb); have n3_ := Aside0.mk (below_step (bl1_ HB.out GE317.out) hb); have n4_ := Aside0.mk (hbox); have n5_ := Aside0.mk ((by rw [hg]; exact (below_size (bl1_ HB.out GE317.out)) : w.heap.size ≤ gb323)); have n6_ := Aside0.mk ((by rw [hg]; exact (below_size (bl1_ HB.out GE317.out)) : w.heap.size ≤ gb323)); have n7_ := Aside0.mk ((by rw [hg]; exact Nat.ne_of_lt (blk_lt (bk_ BK317.out)) : gb317 ≠ gb323)); have n8_ := Aside0.mk ((by rw [hg]; exact Nat.ne_of_gt (blk_lt (bk_ BK317.out)) : gb323 ≠ gb317)); clear HO315; clear HO321; clear BK317; clear HB; have HO315 := n0_; have HO321 := n1_; have BK317 := n2_; have HB := n3_; have BK323 := n4_; have GW323 := n5_; have GE323 := n6_; have NB317_323 := n7_; have NB323_317 := n8_; clear n0_ n1_ n2_ n3_ n4_ n5_ n6_ n7_ n8_; clear hb hbox hg; have hnb12 := NB323_317.out; have hnc12 := NB317_323.out; obtain ⟨hcz13_0, hcz13_1, hfz13_0, hfz13_1⟩ := cz2_ BK323.out; obtain ⟨Ao14, co14, eo14⟩ := Kd.R_slice HO321.out; subst eo14))
  (try simp only [Act.put, List.setIfInBounds_toArray, List.set_cons_zero, List.set_cons_succ])
  go_cut [32] (fun v32 wc => ∃ (kq : Nat) (x32_4 : Bool), v32 = .bool x32_4 ∧ Aside0 (laws_FnExactReadTree.j0 kq a0 t316 x32_4 t312 t313 t318 t319 = some r) ∧ Aside0 (kq ≤ k) ∧ Aside0 (Kd.R k52 52 wc w.heap.size (fun k_ => some k_ ≠ ((.slice Ao14 t319.length co14) : Value).ownBlock) (.slice Ao9 t313.length co9) t313) ∧ Aside0 (Kd.R k52 52 wc w.heap.size (fun k_ => some k_ ≠ ((.slice Ao9 t313.length co9) : Value).ownBlock) (.slice Ao14 t319.length co14) t319) ∧ Aside0 (wc.heap[gb317]? = some (.cells #[.int .i64 t312, (.slice Ao9 t313.length co9)] 26 (0, 0))) ∧ Aside0 (wc.heap[gb323]? = some (.cells #[.int .i64 t318, (.slice Ao14 t319.length co14)] 26 (0, 0))) ∧ Aside0 (Below w.heap.size w wc))
  case first =>
   have H := HC5.out
   clear HC5
   replace H := Option.bind_eq_some_iff.mp H
   obtain ⟨t324, A150, H⟩ := H
   replace H : (if t324 = true then (laws_FnExactReadTree.j0 k a0 t316 (t322 != t316) t312 t313 t318 t319) else (laws_FnExactReadTree.j0 k a0 t316 true t312 t313 t318 t319)) = some r := H
   have A15 := Aside0.mk A150
   clear A150
   by_cases c16 : t324 = true
   ·subst c16
    have H1 : (laws_FnExactReadTree.j0 k a0 t316 (t322 != t316) t312 t313 t318 t319) = some r := by rw [if_pos rfl] at H; exact H
    clear H
    have H := H1
    clear H1
    have H' := Aside0.mk H
    clear H
    have hnb17 := NB323_317.out
    have hnc17 := NB317_323.out
    obtain ⟨hcz18_0, hcz18_1, hfz18_0, hfz18_1⟩ := cz2_ BK323.out
    obtain ⟨hcz19_0, hcz19_1, hfz19_0, hfz19_1⟩ := cz2_ BK317.out
    go_wp2_with (first | ((with_reducible refine gate_callee (f := 16) rfl ?_); refine goesL_ (some 26) rfl rfl Tryd.func16 (by kernel_rfl) rfl #[.agg #[.int .i64 t318, .slice Ao14 t319.length co14], .agg #[.int .i64 t312, .slice Ao9 t313.length co9]] rfl mp_ ?_; (with_reducible refine (laws_eqTree.calls k t318 _ _ t319 t312 _ _ t313 true _ ?side1 ?side2 ?side3 ?side4 A15.out).mono ?_); (case side1 => refine (Kd.R_reads' (e := 52) (base := w.heap.size) (ok := fun k_ => (True ∧ some k_ ≠ (.slice Ao9 t313.length co9 : Value).ownBlock)) (n := t319.length) (c := co14) ?_).2.2; exact (by (with_reducible repeat (first | apply Kd.R_alloc | apply Kd.R_drewN | apply Kd.R_drew)); exact (Kd.R_mono (Kd.R_far (p := ⟨gb323, 1, none⟩) (Kd.R_far (p := ⟨gb323, 0, none⟩) (Kd.R_types HO321.out BK323.out (by decide)) (fun _ hk => hk.2) (.int .i64 t318)) (fun _ hk => hk.2) (.slice Ao14 t319.length co14)) (fun _ h_ => h_.1)))); (case side2 => exact (Kd.R_reads' HO321.out).2.1); (case side3 => refine (Kd.R_reads' (e := 52) (base := w.heap.size) (ok := fun k_ => (True ∧ some k_ ≠ (.slice Ao14 t319.length co14 : Value).ownBlock)) (n := t313.length) (c := co9) ?_).2.2; exact (by (with_reducible repeat (first | apply Kd.R_alloc | apply Kd.R_drewN | apply Kd.R_drew)); exact (Kd.R_mono (Kd.R_far (p := ⟨gb323, 1, none⟩) (Kd.R_far (p := ⟨gb323, 0, none⟩) (Kd.R_types HO315.out BK323.out (by decide)) (fun _ hk => hk.2) (.int .i64 t318)) (fun _ hk => hk.2) (.slice Ao14 t319.length co14)) (fun _ h_ => h_.1)))); (case side4 => exact (Kd.R_reads' HO315.out).2.1); rintro e w20 ⟨rfl, hb⟩; refine ⟨_, rfl, ?_⟩; have n0_ := Aside0.mk (Kd.R_below (by (with_reducible repeat (first | apply Kd.R_alloc | apply Kd.R_drewN | apply Kd.R_drew)); exact (Kd.R_mono (Kd.R_far (p := ⟨gb323, 1, none⟩) (Kd.R_far (p := ⟨gb323, 0, none⟩) (Kd.R_types HO315.out BK323.out (by decide)) (fun _ hk => hk.2) (.int .i64 t318)) (fun _ hk => hk.2) (.slice Ao14 t319.length co14)) (fun _ h_ => h_.1))) hb); have n1_ := Aside0.mk (Kd.R_below (by (with_reducible repeat (first | apply Kd.R_alloc | apply Kd.R_drewN | apply Kd.R_drew)); exact (Kd.R_mono (Kd.R_far (p := ⟨gb323, 1, none⟩) (Kd.R_far (p := ⟨gb323, 0, none⟩) (Kd.R_types HO321.out BK323.out (by decide)) (fun _ hk => hk.2) (.int .i64 t318)) (fun _ hk => hk.2) (.slice Ao14 t319.length co14)) (fun _ h_ => h_.1))) hb); have n2_ := Aside0.mk (blk_below (g := gb317) (o := .cells #[.int .i64 t312, .slice Ao9 t313.length co9] 26 (0, 0)) (by (with_reducible repeat (first | refine blk_drewN ?_ _ | refine blk_drew ?_ | refine blk_alloc ?_ _)); refine blk_far ?_ NB317_323.out _; (with_reducible repeat (first | refine blk_drewN ?_ _ | refine blk_drew ?_ | refine blk_alloc ?_ _)); refine blk_far ?_ NB317_323.out _; (with_reducible repeat (first | refine blk_drewN ?_ _ | refine blk_drew ?_ | refine blk_alloc ?_ _)); exact BK317.out) hb); have n3_ := Aside0.mk (blk_below (g := gb323) (o := .cells #[.int .i64 t318, .slice Ao14 t319.length co14] 26 (0, 0)) (by (with_reducible repeat (first | refine blk_drewN ?_ _ | refine blk_drew ?_ | refine blk_alloc ?_ _)); refine blk_put (cs := #[.int .i64 t318, .slice none 0 0]) ?_ 1 _ rfl; (with_reducible repeat (first | refine blk_drewN ?_ _ | refine blk_drew ?_ | refine blk_alloc ?_ _)); refine blk_put (cs := #[.int .i64 0, .slice none 0 0]) ?_ 0 _ rfl; (with_reducible repeat (first | refine blk_drewN ?_ _ | refine blk_drew ?_ | refine blk_alloc ?_ _)); exact BK323.out) hb); have n4_ := Aside0.mk (below_step (bl2_ HB.out GE317.out GE323.out) hb); clear HO315; clear HO321; clear BK317; clear BK323; clear HB; have HO315 := n0_; have HO321 := n1_; have BK317 := n2_; have BK323 := n3_; have HB := n4_; clear n0_ n1_ n2_ n3_ n4_; (try clear hb); (try clear hb2); (try clear hk); (try clear hi)))
    go_meet
    case rel => exact ⟨_, ((t322 != t316)), rs_, H', ⟨by first | omega | exact Nat.le_refl _⟩, ⟨by (with_reducible repeat (first | apply Kd.R_alloc | apply Kd.R_drewN | apply Kd.R_drew)); exact Kd.R_mono HO315.out (fun _ hk => hk.2)⟩, ⟨by (with_reducible repeat (first | apply Kd.R_alloc | apply Kd.R_drewN | apply Kd.R_drew)); exact Kd.R_mono HO321.out (fun _ hk => hk.2)⟩, ⟨bk_ BK317.out⟩, ⟨bk_ BK323.out⟩, ⟨bl2_ HB.out GE317.out GE323.out⟩⟩
   ·replace c16 := Bool.eq_false_iff.mpr c16
    subst c16
    have H1 : (laws_FnExactReadTree.j0 k a0 t316 true t312 t313 t318 t319) = some r := by rw [if_neg (show ¬ (false = true) by decide)] at H; exact H
    clear H
    have H := H1
    clear H1
    have H' := Aside0.mk H
    clear H
    have hnb21 := NB323_317.out
    have hnc21 := NB317_323.out
    obtain ⟨hcz22_0, hcz22_1, hfz22_0, hfz22_1⟩ := cz2_ BK323.out
    obtain ⟨hcz23_0, hcz23_1, hfz23_0, hfz23_1⟩ := cz2_ BK317.out
    go_wp2_with (first | ((with_reducible refine gate_callee (f := 16) rfl ?_); refine goesL_ (some 26) rfl rfl Tryd.func16 (by kernel_rfl) rfl #[.agg #[.int .i64 t318, .slice Ao14 t319.length co14], .agg #[.int .i64 t312, .slice Ao9 t313.length co9]] rfl mp_ ?_; (with_reducible refine (laws_eqTree.calls k t318 _ _ t319 t312 _ _ t313 false _ ?side1 ?side2 ?side3 ?side4 A15.out).mono ?_); (case side1 => refine (Kd.R_reads' (e := 52) (base := w.heap.size) (ok := fun k_ => (True ∧ some k_ ≠ (.slice Ao9 t313.length co9 : Value).ownBlock)) (n := t319.length) (c := co14) ?_).2.2; exact (by (with_reducible repeat (first | apply Kd.R_alloc | apply Kd.R_drewN | apply Kd.R_drew)); exact (Kd.R_mono (Kd.R_far (p := ⟨gb323, 1, none⟩) (Kd.R_far (p := ⟨gb323, 0, none⟩) (Kd.R_types HO321.out BK323.out (by decide)) (fun _ hk => hk.2) (.int .i64 t318)) (fun _ hk => hk.2) (.slice Ao14 t319.length co14)) (fun _ h_ => h_.1)))); (case side2 => exact (Kd.R_reads' HO321.out).2.1); (case side3 => refine (Kd.R_reads' (e := 52) (base := w.heap.size) (ok := fun k_ => (True ∧ some k_ ≠ (.slice Ao14 t319.length co14 : Value).ownBlock)) (n := t313.length) (c := co9) ?_).2.2; exact (by (with_reducible repeat (first | apply Kd.R_alloc | apply Kd.R_drewN | apply Kd.R_drew)); exact (Kd.R_mono (Kd.R_far (p := ⟨gb323, 1, none⟩) (Kd.R_far (p := ⟨gb323, 0, none⟩) (Kd.R_types HO315.out BK323.out (by decide)) (fun _ hk => hk.2) (.int .i64 t318)) (fun _ hk => hk.2) (.slice Ao14 t319.length co14)) (fun _ h_ => h_.1)))); (case side4 => exact (Kd.R_reads' HO315.out).2.1); rintro e w24 ⟨rfl, hb⟩; refine ⟨_, rfl, ?_⟩; have n0_ := Aside0.mk (Kd.R_below (by (with_reducible repeat (first | apply Kd.R_alloc | apply Kd.R_drewN | apply Kd.R_drew)); exact (Kd.R_mono (Kd.R_far (p := ⟨gb323, 1, none⟩) (Kd.R_far (p := ⟨gb323, 0, none⟩) (Kd.R_types HO315.out BK323.out (by decide)) (fun _ hk => hk.2) (.int .i64 t318)) (fun _ hk => hk.2) (.slice Ao14 t319.length co14)) (fun _ h_ => h_.1))) hb); have n1_ := Aside0.mk (Kd.R_below (by (with_reducible repeat (first | apply Kd.R_alloc | apply Kd.R_drewN | apply Kd.R_drew)); exact (Kd.R_mono (Kd.R_far (p := ⟨gb323, 1, none⟩) (Kd.R_far (p := ⟨gb323, 0, none⟩) (Kd.R_types HO321.out BK323.out (by decide)) (fun _ hk => hk.2) (.int .i64 t318)) (fun _ hk => hk.2) (.slice Ao14 t319.length co14)) (fun _ h_ => h_.1))) hb); have n2_ := Aside0.mk (blk_below (g := gb317) (o := .cells #[.int .i64 t312, .slice Ao9 t313.length co9] 26 (0, 0)) (by (with_reducible repeat (first | refine blk_drewN ?_ _ | refine blk_drew ?_ | refine blk_alloc ?_ _)); refine blk_far ?_ NB317_323.out _; (with_reducible repeat (first | refine blk_drewN ?_ _ | refine blk_drew ?_ | refine blk_alloc ?_ _)); refine blk_far ?_ NB317_323.out _; (with_reducible repeat (first | refine blk_drewN ?_ _ | refine blk_drew ?_ | refine blk_alloc ?_ _)); exact BK317.out) hb); have n3_ := Aside0.mk (blk_below (g := gb323) (o := .cells #[.int .i64 t318, .slice Ao14 t319.length co14] 26 (0, 0)) (by (with_reducible repeat (first | refine blk_drewN ?_ _ | refine blk_drew ?_ | refine blk_alloc ?_ _)); refine blk_put (cs := #[.int .i64 t318, .slice none 0 0]) ?_ 1 _ rfl; (with_reducible repeat (first | refine blk_drewN ?_ _ | refine blk_drew ?_ | refine blk_alloc ?_ _)); refine blk_put (cs := #[.int .i64 0, .slice none 0 0]) ?_ 0 _ rfl; (with_reducible repeat (first | refine blk_drewN ?_ _ | refine blk_drew ?_ | refine blk_alloc ?_ _)); exact BK323.out) hb); have n4_ := Aside0.mk (below_step (bl2_ HB.out GE317.out GE323.out) hb); clear HO315; clear HO321; clear BK317; clear BK323; clear HB; have HO315 := n0_; have HO321 := n1_; have BK317 := n2_; have BK323 := n3_; have HB := n4_; clear n0_ n1_ n2_ n3_ n4_; (try clear hb); (try clear hb2); (try clear hk); (try clear hi)))
    go_meet
    case rel => exact ⟨_, (true), rs_, H', ⟨by first | omega | exact Nat.le_refl _⟩, ⟨by (with_reducible repeat (first | apply Kd.R_alloc | apply Kd.R_drewN | apply Kd.R_drew)); exact Kd.R_mono HO315.out (fun _ hk => hk.2)⟩, ⟨by (with_reducible repeat (first | apply Kd.R_alloc | apply Kd.R_drewN | apply Kd.R_drew)); exact Kd.R_mono HO321.out (fun _ hk => hk.2)⟩, ⟨bk_ BK317.out⟩, ⟨bk_ BK323.out⟩, ⟨bl2_ HB.out GE317.out GE323.out⟩⟩
  case rest =>
   clear HC5
   try clear c1
   try clear c2
   try clear c2b0
   try clear c2b1
   try clear p2
   try clear c4
   try clear c7
   try clear c12
   try clear c15
   try clear c16
   try clear c17
   try clear c21
   try clear hcz13_0
   try clear hcz13_1
   try clear hcz18_0
   try clear hcz18_1
   try clear hcz19_0
   try clear hcz19_1
   try clear hcz22_0
   try clear hcz22_1
   try clear hcz23_0
   try clear hcz23_1
   try clear hcz8_0
   try clear hcz8_1
   try clear hfz13_0
   try clear hfz13_1
   try clear hfz18_0
   try clear hfz18_1
   try clear hfz19_0
   try clear hfz19_1
   try clear hfz22_0
   try clear hfz22_1
   try clear hfz23_0
   try clear hfz23_1
   try clear hfz8_0
   try clear hfz8_1
   obtain ⟨kq, x32_4, rfl, HA, HJ4, HO_318001, HO_324001, BK317, BK323, HB⟩ := hcut
   cases kq with
   | zero => exact absurd HA.out (by simp [laws_FnExactReadTree.j0])
   | succ kj4 =>
    have H := HA.out
    clear HA
    simp only [laws_FnExactReadTree.j0] at H
    by_cases c25 : x32_4 = true
    ·subst c25
     have H1 : (some false) = some r := by rw [if_pos rfl] at H; exact H
     clear H
     have H := H1
     clear H1
     obtain rfl := Option.some.inj H
     go_wp2
     go_ret
     exact ⟨re_, bl2_ HB.out GE317.out GE323.out⟩
    ·replace c25 := Bool.eq_false_iff.mpr c25
     subst c25
     have H1 : ((laws_markTree.f kj4 t318 t319 1).bind fun bt325 => ((laws_heldTree.f kj4 t318 bt325.2 1).bind fun t327 => (if t327 < 0 then (some false) else (if t327 = bt325.1 then ((impl_ReadTree.f kj4 a0).bind fun bt328 => ((laws_eqTree.f kj4 bt328.1 bt328.2.1 t312 t313).bind fun t334 => (if t334 = true then (laws_FnExactReadTree.j1 kj4 bt325.1 (bt328.2.2 != t316) t318 bt325.2) else (laws_FnExactReadTree.j1 kj4 bt325.1 true t318 bt325.2)))) else (some false))))) = some r := by rw [if_neg (show ¬ (false = true) by decide)] at H; exact H
     clear H
     have H := H1
     clear H1
     replace H := Option.bind_eq_some_iff.mp H
     obtain ⟨⟨t325, t326⟩, A260, H⟩ := H
     replace H : ((laws_heldTree.f kj4 t318 t326 1).bind fun t327 => (if t327 < 0 then (some false) else (if t327 = t325 then ((impl_ReadTree.f kj4 a0).bind fun bt328 => ((laws_eqTree.f kj4 bt328.1 bt328.2.1 t312 t313).bind fun t334 => (if t334 = true then (laws_FnExactReadTree.j1 kj4 t325 (bt328.2.2 != t316) t318 t326) else (laws_FnExactReadTree.j1 kj4 t325 true t318 t326)))) else (some false)))) = some r := H
     have A26 := Aside0.mk A260
     clear A260
     replace H := Option.bind_eq_some_iff.mp H
     obtain ⟨t327, A270, H⟩ := H
     replace H : (if t327 < 0 then (some false) else (if t327 = t325 then ((impl_ReadTree.f kj4 a0).bind fun bt328 => ((laws_eqTree.f kj4 bt328.1 bt328.2.1 t312 t313).bind fun t334 => (if t334 = true then (laws_FnExactReadTree.j1 kj4 t325 (bt328.2.2 != t316) t318 t326) else (laws_FnExactReadTree.j1 kj4 t325 true t318 t326)))) else (some false))) = some r := H
     have A27 := Aside0.mk A270
     clear A270
     by_cases c28 : t327 < 0
     ·rw [if_pos c28] at H
      have c28b0 := decide_eq_true c28
      clear c28
      obtain rfl := Option.some.inj H
      have hnb29 := NB323_317.out
      have hnc29 := NB317_323.out
      obtain ⟨hcz30_0, hcz30_1, hfz30_0, hfz30_1⟩ := cz2_ BK323.out
      go_wp2_with (first | ((with_reducible refine gate_callee (f := 17) rfl ?_); refine goesL_ (some 35) rfl rfl Tryd.func17 (by kernel_rfl) rfl #[.agg #[.int .i64 t318, .slice Ao14 t319.length co14], .int .i64 1] rfl mp_ ?_; (with_reducible refine (laws_markTree.calls kj4 t318 (fun k_ => some k_ = (.slice Ao14 t319.length co14 : Value).ownBlock) (.slice Ao14 t319.length co14) t319 1 t325 t326 w _ ?side1 ?side2 A26.out).mono ?_); (case side1 => repeat (first | (with_reducible first | exact HB.out | apply below_alloc | apply pw_below_drewN | apply below_drew1 | refine below_set ?_ GE317.out | refine below_set ?_ GE323.out) | exact HB.out)); (case side2 => exact Kd.R_tight rfl HO_324001.out); rintro e w31 ⟨rfl, hy0, hb, hkp⟩; refine ⟨_, rfl, ?_⟩; have n0_ := Aside0.mk (Kd.R_mono (ok' := fun k_ => some k_ ≠ (.slice Ao14 t319.length co14 : Value).ownBlock) (Kd.R_keptB (HO_318001.out) hkp (fun k_ hk_ hs_ => (hk_) hs_)) (fun k_ hk_ => hk_.1)); have n1_ := Aside0.mk (Kd.R_reok rfl hy0 (fun k_ e_ => HO_324001.out.1 k_ e_)); have n2_ := Aside0.mk (blk_kept (bk_ BK317.out) hkp (fun hs_ => (fun e_ => (Kd.R_ne HO_324001.out BK317.out (by decide)) e_) hs_)); have n3_ := Aside0.mk (blk_kept (bk_ BK323.out) hkp (fun hs_ => (fun e_ => (Kd.R_ne HO_324001.out BK323.out (by decide)) e_) hs_)); have n4_ := Aside0.mk (hb); clear HO_318001; clear HO_324001; clear BK317; clear BK323; clear HB; have HO_318001 := n0_; have HO_324001 := n1_; have BK317 := n2_; have BK323 := n3_; have HB := n4_; clear n0_ n1_ n2_ n3_ n4_; (try clear hb); (try clear hkp); (try clear hy0); obtain ⟨hcz32_0, hcz32_1, hfz32_0, hfz32_1⟩ := cz2_ BK323.out) | ((with_reducible refine gate_callee (f := 18) rfl ?_); refine goesL_ (some 38) rfl rfl Tryd.func18 (by kernel_rfl) rfl #[.agg #[.int .i64 t318, .slice Ao14 t326.length co14], .int .i64 1] rfl (by (try simp only [List.map_toArray, List.map_cons, List.map_nil]); first | done | (rw [show t326.length = t319.length from (Kd.R_reads' HO_324001.out).1.symm] <;> rfl) | rfl | (simp only [List.length_drop, List.length_take]; rfl)) ?_; (with_reducible refine (laws_heldTree.calls kj4 t318 _ _ t326 1 t327 _ ?side1 ?side2 A27.out).mono ?_); (case side1 => exact ca_ (Kd.R_reads' HO_324001.out).2.2); (case side2 => rw [show t326.length = t319.length from (Kd.R_reads' HO_324001.out).1.symm]; exact (Kd.R_reads' HO_324001.out).2.1); rintro e w33 ⟨rfl, hb⟩; refine ⟨_, rfl, ?_⟩; have n0_ := Aside0.mk (Kd.R_below (ra_ HO_318001.out) hb); have n1_ := Aside0.mk (Kd.R_below (ra_ HO_324001.out) hb); have n2_ := Aside0.mk (blk_below (g := gb317) (o := .cells #[.int .i64 t312, .slice Ao9 t313.length co9] 26 (0, 0)) (bk_ BK317.out) hb); have n3_ := Aside0.mk (blk_below (g := gb323) (o := .cells #[.int .i64 t318, .slice Ao14 t319.length co14] 26 (0, 0)) (bk_ BK323.out) hb); have n4_ := Aside0.mk (below_step (bl2_ HB.out GE317.out GE323.out) hb); clear HO_318001; clear HO_324001; clear BK317; clear BK323; clear HB; have HO_318001 := n0_; have HO_324001 := n1_; have BK317 := n2_; have BK323 := n3_; have HB := n4_; clear n0_ n1_ n2_ n3_ n4_; (try clear hb); (try clear hb2); (try clear hk); (try clear hi)))
      go_ret
      exact ⟨re_, bl2_ HB.out GE317.out GE323.out⟩
     ·rw [if_neg c28] at H
      have c28b0 := decide_eq_false c28
      clear c28
      by_cases c34 : t327 = t325
      ·rw [if_pos c34] at H
       have c34b0 : (t327 == t325) = true := beq_iff_eq.mpr c34
       have c34b1 : (t327 != t325) = false := bne_eq_false_iff_eq.mpr c34
       clear c34
       replace H := Option.bind_eq_some_iff.mp H
       obtain ⟨⟨t328, t329, t332⟩, A350, H⟩ := H
       replace H : ((laws_eqTree.f kj4 t328 t329 t312 t313).bind fun t334 => (if t334 = true then (laws_FnExactReadTree.j1 kj4 t325 (t332 != t316) t318 t326) else (laws_FnExactReadTree.j1 kj4 t325 true t318 t326))) = some r := H
       have A35 := Aside0.mk A350
       clear A350
       have HC36 := Aside0.mk H
       clear H
       have hnb37 := NB323_317.out
       have hnc37 := NB317_323.out
       obtain ⟨hcz38_0, hcz38_1, hfz38_0, hfz38_1⟩ := cz2_ BK323.out
       go_upto_region 16 with (first | ((with_reducible refine gate_callee (f := 17) rfl ?_); refine goesL_ (some 35) rfl rfl Tryd.func17 (by kernel_rfl) rfl #[.agg #[.int .i64 t318, .slice Ao14 t319.length co14], .int .i64 1] rfl mp_ ?_; (with_reducible refine (laws_markTree.calls kj4 t318 (fun k_ => some k_ = (.slice Ao14 t319.length co14 : Value).ownBlock) (.slice Ao14 t319.length co14) t319 1 t325 t326 w _ ?side1 ?side2 A26.out).mono ?_); (case side1 => repeat (first | (with_reducible first | exact HB.out | apply below_alloc | apply pw_below_drewN | apply below_drew1 | refine below_set ?_ GE317.out | refine below_set ?_ GE323.out) | exact HB.out)); (case side2 => exact Kd.R_tight rfl HO_324001.out); rintro e w39 ⟨rfl, hy0, hb, hkp⟩; refine ⟨_, rfl, ?_⟩; have n0_ := Aside0.mk (Kd.R_mono (ok' := fun k_ => some k_ ≠ (.slice Ao14 t319.length co14 : Value).ownBlock) (Kd.R_keptB (HO_318001.out) hkp (fun k_ hk_ hs_ => (hk_) hs_)) (fun k_ hk_ => hk_.1)); have n1_ := Aside0.mk (Kd.R_reok rfl hy0 (fun k_ e_ => HO_324001.out.1 k_ e_)); have n2_ := Aside0.mk (blk_kept (bk_ BK317.out) hkp (fun hs_ => (fun e_ => (Kd.R_ne HO_324001.out BK317.out (by decide)) e_) hs_)); have n3_ := Aside0.mk (blk_kept (bk_ BK323.out) hkp (fun hs_ => (fun e_ => (Kd.R_ne HO_324001.out BK323.out (by decide)) e_) hs_)); have n4_ := Aside0.mk (hb); clear HO_318001; clear HO_324001; clear BK317; clear BK323; clear HB; have HO_318001 := n0_; have HO_324001 := n1_; have BK317 := n2_; have BK323 := n3_; have HB := n4_; clear n0_ n1_ n2_ n3_ n4_; (try clear hb); (try clear hkp); (try clear hy0); obtain ⟨hcz40_0, hcz40_1, hfz40_0, hfz40_1⟩ := cz2_ BK323.out) | ((with_reducible refine gate_callee (f := 18) rfl ?_); refine goesL_ (some 38) rfl rfl Tryd.func18 (by kernel_rfl) rfl #[.agg #[.int .i64 t318, .slice Ao14 t326.length co14], .int .i64 1] rfl (by (try simp only [List.map_toArray, List.map_cons, List.map_nil]); first | done | (rw [show t326.length = t319.length from (Kd.R_reads' HO_324001.out).1.symm] <;> rfl) | rfl | (simp only [List.length_drop, List.length_take]; rfl)) ?_; (with_reducible refine (laws_heldTree.calls kj4 t318 _ _ t326 1 t327 _ ?side1 ?side2 A27.out).mono ?_); (case side1 => exact ca_ (Kd.R_reads' HO_324001.out).2.2); (case side2 => rw [show t326.length = t319.length from (Kd.R_reads' HO_324001.out).1.symm]; exact (Kd.R_reads' HO_324001.out).2.1); rintro e w41 ⟨rfl, hb⟩; refine ⟨_, rfl, ?_⟩; have n0_ := Aside0.mk (Kd.R_below (ra_ HO_318001.out) hb); have n1_ := Aside0.mk (Kd.R_below (ra_ HO_324001.out) hb); have n2_ := Aside0.mk (blk_below (g := gb317) (o := .cells #[.int .i64 t312, .slice Ao9 t313.length co9] 26 (0, 0)) (bk_ BK317.out) hb); have n3_ := Aside0.mk (blk_below (g := gb323) (o := .cells #[.int .i64 t318, .slice Ao14 t319.length co14] 26 (0, 0)) (bk_ BK323.out) hb); have n4_ := Aside0.mk (below_step (bl2_ HB.out GE317.out GE323.out) hb); clear HO_318001; clear HO_324001; clear BK317; clear BK323; clear HB; have HO_318001 := n0_; have HO_324001 := n1_; have BK317 := n2_; have BK323 := n3_; have HB := n4_; clear n0_ n1_ n2_ n3_ n4_; (try clear hb); (try clear hb2); (try clear hk); (try clear hi)) | ((with_reducible refine gate_callee (f := 7) rfl ?_); refine goesL_ (some 46) rfl rfl Tryd.func7 (by kernel_rfl) rfl #[.string a0] rfl mp_ ?_; (with_reducible refine (impl_ReadTree.calls kj4 a0 t328 t329 t332 _ ?side1 A35.out).mono ?_); (case side1 => refine LaidW.below HLW.out ?_; repeat (first | (with_reducible first | exact HB.out | apply below_alloc | apply pw_below_drewN | apply below_drew1 | refine below_set ?_ GE317.out | refine below_set ?_ GE323.out) | exact HB.out)); rintro e w42 ⟨v330, rfl, ho0, hb⟩; refine ⟨_, rfl, ?_⟩; have n0_ := Aside0.mk (Kd.R_elder' (ra_ HO_318001.out) (Kd.R_base ho0) hb); have n1_ := Aside0.mk (Kd.R_elder' (ra_ HO_324001.out) (Kd.R_base ho0) hb); have n2_ := Aside0.mk (Kd.R_lower (Kd.R_new' (Kd.R_new' ho0 (Kd.R_lt (ra_ HO_318001.out))) (Kd.R_lt (ra_ HO_324001.out))) (below_size (bl2_ HB.out GE317.out GE323.out))); have n3_ := Aside0.mk (blk_below (g := gb317) (o := .cells #[.int .i64 t312, .slice Ao9 t313.length co9] 26 (0, 0)) (bk_ BK317.out) hb); have n4_ := Aside0.mk (blk_below (g := gb323) (o := .cells #[.int .i64 t318, .slice Ao14 t319.length co14] 26 (0, 0)) (bk_ BK323.out) hb); have n5_ := Aside0.mk (below_step (bl2_ HB.out GE317.out GE323.out) hb); clear HO_318001; clear HO_324001; clear BK317; clear BK323; clear HB; have HO_318001 := n0_; have HO_324001 := n1_; have HO331 := n2_; have BK317 := n3_; have BK323 := n4_; have HB := n5_; clear n0_ n1_ n2_ n3_ n4_ n5_; (try clear hb); (try clear hb2); (try clear hk); (try clear hi); (try clear ho0)) | ((with_reducible refine gate_dst (N := 9) rfl ?_); refine box_event ?hg (N := 9) ?hd (cs := #[.int .i64 0, .slice none 0 0]) (t := 26) ?hr ?_; (case hd => rfl); (case hg => rfl); (case hr => first | (go_simp; done) | (go_simp; rfl)); intro gb333 hg w43 hbox hb; have n0_ := Aside0.mk (Kd.R_below (ra_ HO_318001.out) hb); have n1_ := Aside0.mk (Kd.R_below (ra_ HO_324001.out) hb); have n2_ := Aside0.mk (Kd.R_below (ra_ HO331.out) hb); have n3_ := Aside0.mk (blk_below (g := gb317) (o := .cells #[.int .i64 t312, .slice Ao9 t313.length co9] 26 (0, 0)) (bk_ BK317.out) hb); have n4_ := Aside0.mk (blk_below (g := gb323) (o := .cells #[.int .i64 t318, .slice Ao14 t319.length co14] 26 (0, 0)) (bk_ BK323.out) hb); have n5_ := Aside0.mk (below_step (bl2_ HB.out GE317.out GE323.out) hb); have n6_ := Aside0.mk (hbox); have n7_ := Aside0.mk ((by rw [hg]; exact (below_size (bl2_ HB.out GE317.out GE323.out)) : w.heap.size ≤ gb333)); have n8_ := Aside0.mk ((by rw [hg]; exact (below_size (bl2_ HB.out GE317.out GE323.out)) : w.heap.size ≤ gb333)); have n9_ := Aside0.mk ((by rw [hg]; exact Nat.ne_of_lt (blk_lt (bk_ BK317.out)) : gb317 ≠ gb333)); have n10_ := Aside0.mk ((by rw [hg]; exact Nat.ne_of_gt (blk_lt (bk_ BK317.out)) : gb333 ≠ gb317)); have n11_ := Aside0.mk ((by rw [hg]; exact Nat.ne_of_lt (blk_lt (bk_ BK323.out)) : gb323 ≠ gb333)); have n12_ := Aside0.mk ((by rw [hg]; exact Nat.ne_of_gt (blk_lt (bk_ BK323.out)) : gb333 ≠ gb323)); clear HO_318001; clear HO_324001; clear HO331; clear BK317; clear BK323; clear HB; have HO_318001 := n0_; have HO_324001 := n1_; have HO331 := n2_; have BK317 := n3_; have BK323 := n4_; have HB := n5_; have BK333 := n6_; have GW333 := n7_; have GE333 := n8_; have NB317_333 := n9_; have NB333_317 := n10_; have NB323_333 := n11_; have NB333_323 := n12_; clear n0_ n1_ n2_ n3_ n4_ n5_ n6_ n7_ n8_ n9_ n10_ n11_ n12_; clear hb hbox hg; have hnb44 := NB333_317.out; have hnc44 := NB317_333.out; have hnb45 := NB333_323.out; have hnc45 := NB323_333.out; obtain ⟨hcz46_0, hcz46_1, hfz46_0, hfz46_1⟩ := cz2_ BK333.out; obtain ⟨Ao47, co47, eo47⟩ := Kd.R_slice HO331.out; subst eo47))
       (try simp only [Act.put, List.setIfInBounds_toArray, List.set_cons_zero, List.set_cons_succ])
       go_cut [57] (fun v57 wc => ∃ (kq : Nat) (x57_35 : Bool), v57 = .bool x57_35 ∧ Aside0 (laws_FnExactReadTree.j1 kq t325 x57_35 t318 t326 = some r) ∧ Aside0 (kq ≤ kj4) ∧ Aside0 (Kd.R k52 52 wc w.heap.size (fun k_ => some k_ ≠ ((.slice Ao14 t319.length co14) : Value).ownBlock ∧ some k_ ≠ ((.slice Ao47 t329.length co47) : Value).ownBlock) (.slice Ao9 t313.length co9) t313) ∧ Aside0 (Kd.R k52 52 wc w.heap.size (fun k_ => some k_ ≠ ((.slice Ao9 t313.length co9) : Value).ownBlock ∧ some k_ ≠ ((.slice Ao47 t329.length co47) : Value).ownBlock) (.slice Ao14 t319.length co14) t326) ∧ Aside0 (Kd.R k52 52 wc w.heap.size (fun k_ => some k_ ≠ ((.slice Ao9 t313.length co9) : Value).ownBlock ∧ some k_ ≠ ((.slice Ao14 t319.length co14) : Value).ownBlock) (.slice Ao47 t329.length co47) t329) ∧ Aside0 (wc.heap[gb317]? = some (.cells #[.int .i64 t312, (.slice Ao9 t313.length co9)] 26 (0, 0))) ∧ Aside0 (wc.heap[gb323]? = some (.cells #[.int .i64 t318, (.slice Ao14 t319.length co14)] 26 (0, 0))) ∧ Aside0 (wc.heap[gb333]? = some (.cells #[.int .i64 t328, (.slice Ao47 t329.length co47)] 26 (0, 0))) ∧ Aside0 (Below w.heap.size w wc))
       case first =>
        have H := HC36.out
        clear HC36
        replace H := Option.bind_eq_some_iff.mp H
        obtain ⟨t334, A480, H⟩ := H
        replace H : (if t334 = true then (laws_FnExactReadTree.j1 kj4 t325 (t332 != t316) t318 t326) else (laws_FnExactReadTree.j1 kj4 t325 true t318 t326)) = some r := H
        have A48 := Aside0.mk A480
        clear A480
        by_cases c49 : t334 = true
        ·subst c49
         have H1 : (laws_FnExactReadTree.j1 kj4 t325 (t332 != t316) t318 t326) = some r := by rw [if_pos rfl] at H; exact H
         clear H
         have H := H1
         clear H1
         have H' := Aside0.mk H
         clear H
         have hnb50 := NB333_317.out
         have hnc50 := NB317_333.out
         have hnb51 := NB333_323.out
         have hnc51 := NB323_333.out
         obtain ⟨hcz52_0, hcz52_1, hfz52_0, hfz52_1⟩ := cz2_ BK333.out
         have hnb53 := NB317_323.out
         have hnc53 := NB323_317.out
         obtain ⟨hcz54_0, hcz54_1, hfz54_0, hfz54_1⟩ := cz2_ BK317.out
         go_wp2_with (first | ((with_reducible refine gate_callee (f := 16) rfl ?_); refine goesL_ (some 51) rfl rfl Tryd.func16 (by kernel_rfl) rfl #[.agg #[.int .i64 t328, .slice Ao47 t329.length co47], .agg #[.int .i64 t312, .slice Ao9 t313.length co9]] rfl mp_ ?_; (with_reducible refine (laws_eqTree.calls kj4 t328 _ _ t329 t312 _ _ t313 true _ ?side1 ?side2 ?side3 ?side4 A48.out).mono ?_); (case side1 => refine (Kd.R_reads' (e := 52) (base := w.heap.size) (ok := fun k_ => ((True ∧ some k_ ≠ (.slice Ao9 t313.length co9 : Value).ownBlock) ∧ some k_ ≠ (.slice Ao14 t319.length co14 : Value).ownBlock)) (n := t329.length) (c := co47) ?_).2.2; exact (by (with_reducible repeat (first | apply Kd.R_alloc | apply Kd.R_drewN | apply Kd.R_drew)); exact (Kd.R_mono (Kd.R_far (p := ⟨gb333, 1, none⟩) (Kd.R_far (p := ⟨gb333, 0, none⟩) (Kd.R_types HO331.out BK333.out (by decide)) (fun _ hk => hk.2) (.int .i64 t328)) (fun _ hk => hk.2) (.slice Ao47 t329.length co47)) (fun _ h_ => h_.1)))); (case side2 => exact (Kd.R_reads' HO331.out).2.1); (case side3 => refine (Kd.R_reads' (e := 52) (base := w.heap.size) (ok := fun k_ => (some k_ ≠ (.slice Ao14 t319.length co14 : Value).ownBlock ∧ some k_ ≠ (.slice Ao47 t329.length co47 : Value).ownBlock)) (n := t313.length) (c := co9) ?_).2.2; exact (by (with_reducible repeat (first | apply Kd.R_alloc | apply Kd.R_drewN | apply Kd.R_drew)); exact (Kd.R_mono (Kd.R_far (p := ⟨gb333, 1, none⟩) (Kd.R_far (p := ⟨gb333, 0, none⟩) (Kd.R_types HO_318001.out BK333.out (by decide)) (fun _ hk => hk.2) (.int .i64 t328)) (fun _ hk => hk.2) (.slice Ao47 t329.length co47)) (fun _ h_ => h_.1)))); (case side4 => exact (Kd.R_reads' HO_318001.out).2.1); rintro e w55 ⟨rfl, hb⟩; refine ⟨_, rfl, ?_⟩; have n0_ := Aside0.mk (Kd.R_below (by (with_reducible repeat (first | apply Kd.R_alloc | apply Kd.R_drewN | apply Kd.R_drew)); exact (Kd.R_mono (Kd.R_far (p := ⟨gb333, 1, none⟩) (Kd.R_far (p := ⟨gb333, 0, none⟩) (Kd.R_types HO_318001.out BK333.out (by decide)) (fun _ hk => hk.2) (.int .i64 t328)) (fun _ hk => hk.2) (.slice Ao47 t329.length co47)) (fun _ h_ => h_.1))) hb); have n1_ := Aside0.mk (Kd.R_below (by (with_reducible repeat (first | apply Kd.R_alloc | apply Kd.R_drewN | apply Kd.R_drew)); exact (Kd.R_mono (Kd.R_far (p := ⟨gb333, 1, none⟩) (Kd.R_far (p := ⟨gb333, 0, none⟩) (Kd.R_types HO_324001.out BK333.out (by decide)) (fun _ hk => hk.2) (.int .i64 t328)) (fun _ hk => hk.2) (.slice Ao47 t329.length co47)) (fun _ h_ => h_.1))) hb); have n2_ := Aside0.mk (Kd.R_below (by (with_reducible repeat (first | apply Kd.R_alloc | apply Kd.R_drewN | apply Kd.R_drew)); exact (Kd.R_mono (Kd.R_far (p := ⟨gb333, 1, none⟩) (Kd.R_far (p := ⟨gb333, 0, none⟩) (Kd.R_types HO331.out BK333.out (by decide)) (fun _ hk => hk.2) (.int .i64 t328)) (fun _ hk => hk.2) (.slice Ao47 t329.length co47)) (fun _ h_ => h_.1))) hb); have n3_ := Aside0.mk (blk_below (g := gb317) (o := .cells #[.int .i64 t312, .slice Ao9 t313.length co9] 26 (0, 0)) (by (with_reducible repeat (first | refine blk_drewN ?_ _ | refine blk_drew ?_ | refine blk_alloc ?_ _)); refine blk_far ?_ NB317_333.out _; (with_reducible repeat (first | refine blk_drewN ?_ _ | refine blk_drew ?_ | refine blk_alloc ?_ _)); refine blk_far ?_ NB317_333.out _; (with_reducible repeat (first | refine blk_drewN ?_ _ | refine blk_drew ?_ | refine blk_alloc ?_ _)); exact BK317.out) hb); have n4_ := Aside0.mk (blk_below (g := gb323) (o := .cells #[.int .i64 t318, .slice Ao14 t319.length co14] 26 (0, 0)) (by (with_reducible repeat (first | refine blk_drewN ?_ _ | refine blk_drew ?_ | refine blk_alloc ?_ _)); refine blk_far ?_ NB323_333.out _; (with_reducible repeat (first | refine blk_drewN ?_ _ | refine blk_drew ?_ | refine blk_alloc ?_ _)); refine blk_far ?_ NB323_333.out _; (with_reducible repeat (first | refine blk_drewN ?_ _ | refine blk_drew ?_ | refine blk_alloc ?_ _)); exact BK323.out) hb); have n5_ := Aside0.mk (blk_below (g := gb333) (o := .cells #[.int .i64 t328, .slice Ao47 t329.length co47] 26 (0, 0)) (by (with_reducible repeat (first | refine blk_drewN ?_ _ | refine blk_drew ?_ | refine blk_alloc ?_ _)); refine blk_put (cs := #[.int .i64 t328, .slice none 0 0]) ?_ 1 _ rfl; (with_reducible repeat (first | refine blk_drewN ?_ _ | refine blk_drew ?_ | refine blk_alloc ?_ _)); refine blk_put (cs := #[.int .i64 0, .slice none 0 0]) ?_ 0 _ rfl; (with_reducible repeat (first | refine blk_drewN ?_ _ | refine blk_drew ?_ | refine blk_alloc ?_ _)); exact BK333.out) hb); have n6_ := Aside0.mk (below_step (bl3_ HB.out GE317.out GE323.out GE333.out) hb); clear HO_318001; clear HO_324001; clear HO331; clear BK317; clear BK323; clear BK333; clear HB; have HO_318001 := n0_; have HO_324001 := n1_; have HO331 := n2_; have BK317 := n3_; have BK323 := n4_; have BK333 := n5_; have HB := n6_; clear n0_ n1_ n2_ n3_ n4_ n5_ n6_; (try clear hb); (try clear hb2); (try clear hk); (try clear hi)))
         go_meet
         case rel => exact ⟨_, ((t332 != t316)), rs_, H', ⟨by have := HJ4.out; first | omega | exact Nat.le_refl _⟩, ⟨ra_ HO_318001.out⟩, ⟨ra_ HO_324001.out⟩, ⟨by (with_reducible repeat (first | apply Kd.R_alloc | apply Kd.R_drewN | apply Kd.R_drew)); exact Kd.R_mono HO331.out (fun _ hk => ⟨hk.1.2, hk.2⟩)⟩, ⟨bk_ BK317.out⟩, ⟨bk_ BK323.out⟩, ⟨bk_ BK333.out⟩, ⟨bl3_ HB.out GE317.out GE323.out GE333.out⟩⟩
        ·replace c49 := Bool.eq_false_iff.mpr c49
         subst c49
         have H1 : (laws_FnExactReadTree.j1 kj4 t325 true t318 t326) = some r := by rw [if_neg (show ¬ (false = true) by decide)] at H; exact H
         clear H
         have H := H1
         clear H1
         have H' := Aside0.mk H
         clear H
         have hnb56 := NB333_317.out
         have hnc56 := NB317_333.out
         have hnb57 := NB333_323.out
         have hnc57 := NB323_333.out
         obtain ⟨hcz58_0, hcz58_1, hfz58_0, hfz58_1⟩ := cz2_ BK333.out
         have hnb59 := NB317_323.out
         have hnc59 := NB323_317.out
         obtain ⟨hcz60_0, hcz60_1, hfz60_0, hfz60_1⟩ := cz2_ BK317.out
         go_wp2_with (first | ((with_reducible refine gate_callee (f := 16) rfl ?_); refine goesL_ (some 51) rfl rfl Tryd.func16 (by kernel_rfl) rfl #[.agg #[.int .i64 t328, .slice Ao47 t329.length co47], .agg #[.int .i64 t312, .slice Ao9 t313.length co9]] rfl mp_ ?_; (with_reducible refine (laws_eqTree.calls kj4 t328 _ _ t329 t312 _ _ t313 false _ ?side1 ?side2 ?side3 ?side4 A48.out).mono ?_); (case side1 => refine (Kd.R_reads' (e := 52) (base := w.heap.size) (ok := fun k_ => ((True ∧ some k_ ≠ (.slice Ao9 t313.length co9 : Value).ownBlock) ∧ some k_ ≠ (.slice Ao14 t319.length co14 : Value).ownBlock)) (n := t329.length) (c := co47) ?_).2.2; exact (by (with_reducible repeat (first | apply Kd.R_alloc | apply Kd.R_drewN | apply Kd.R_drew)); exact (Kd.R_mono (Kd.R_far (p := ⟨gb333, 1, none⟩) (Kd.R_far (p := ⟨gb333, 0, none⟩) (Kd.R_types HO331.out BK333.out (by decide)) (fun _ hk => hk.2) (.int .i64 t328)) (fun _ hk => hk.2) (.slice Ao47 t329.length co47)) (fun _ h_ => h_.1)))); (case side2 => exact (Kd.R_reads' HO331.out).2.1); (case side3 => refine (Kd.R_reads' (e := 52) (base := w.heap.size) (ok := fun k_ => (some k_ ≠ (.slice Ao14 t319.length co14 : Value).ownBlock ∧ some k_ ≠ (.slice Ao47 t329.length co47 : Value).ownBlock)) (n := t313.length) (c := co9) ?_).2.2; exact (by (with_reducible repeat (first | apply Kd.R_alloc | apply Kd.R_drewN | apply Kd.R_drew)); exact (Kd.R_mono (Kd.R_far (p := ⟨gb333, 1, none⟩) (Kd.R_far (p := ⟨gb333, 0, none⟩) (Kd.R_types HO_318001.out BK333.out (by decide)) (fun _ hk => hk.2) (.int .i64 t328)) (fun _ hk => hk.2) (.slice Ao47 t329.length co47)) (fun _ h_ => h_.1)))); (case side4 => exact (Kd.R_reads' HO_318001.out).2.1); rintro e w61 ⟨rfl, hb⟩; refine ⟨_, rfl, ?_⟩; have n0_ := Aside0.mk (Kd.R_below (by (with_reducible repeat (first | apply Kd.R_alloc | apply Kd.R_drewN | apply Kd.R_drew)); exact (Kd.R_mono (Kd.R_far (p := ⟨gb333, 1, none⟩) (Kd.R_far (p := ⟨gb333, 0, none⟩) (Kd.R_types HO_318001.out BK333.out (by decide)) (fun _ hk => hk.2) (.int .i64 t328)) (fun _ hk => hk.2) (.slice Ao47 t329.length co47)) (fun _ h_ => h_.1))) hb); have n1_ := Aside0.mk (Kd.R_below (by (with_reducible repeat (first | apply Kd.R_alloc | apply Kd.R_drewN | apply Kd.R_drew)); exact (Kd.R_mono (Kd.R_far (p := ⟨gb333, 1, none⟩) (Kd.R_far (p := ⟨gb333, 0, none⟩) (Kd.R_types HO_324001.out BK333.out (by decide)) (fun _ hk => hk.2) (.int .i64 t328)) (fun _ hk => hk.2) (.slice Ao47 t329.length co47)) (fun _ h_ => h_.1))) hb); have n2_ := Aside0.mk (Kd.R_below (by (with_reducible repeat (first | apply Kd.R_alloc | apply Kd.R_drewN | apply Kd.R_drew)); exact (Kd.R_mono (Kd.R_far (p := ⟨gb333, 1, none⟩) (Kd.R_far (p := ⟨gb333, 0, none⟩) (Kd.R_types HO331.out BK333.out (by decide)) (fun _ hk => hk.2) (.int .i64 t328)) (fun _ hk => hk.2) (.slice Ao47 t329.length co47)) (fun _ h_ => h_.1))) hb); have n3_ := Aside0.mk (blk_below (g := gb317) (o := .cells #[.int .i64 t312, .slice Ao9 t313.length co9] 26 (0, 0)) (by (with_reducible repeat (first | refine blk_drewN ?_ _ | refine blk_drew ?_ | refine blk_alloc ?_ _)); refine blk_far ?_ NB317_333.out _; (with_reducible repeat (first | refine blk_drewN ?_ _ | refine blk_drew ?_ | refine blk_alloc ?_ _)); refine blk_far ?_ NB317_333.out _; (with_reducible repeat (first | refine blk_drewN ?_ _ | refine blk_drew ?_ | refine blk_alloc ?_ _)); exact BK317.out) hb); have n4_ := Aside0.mk (blk_below (g := gb323) (o := .cells #[.int .i64 t318, .slice Ao14 t319.length co14] 26 (0, 0)) (by (with_reducible repeat (first | refine blk_drewN ?_ _ | refine blk_drew ?_ | refine blk_alloc ?_ _)); refine blk_far ?_ NB323_333.out _; (with_reducible repeat (first | refine blk_drewN ?_ _ | refine blk_drew ?_ | refine blk_alloc ?_ _)); refine blk_far ?_ NB323_333.out _; (with_reducible repeat (first | refine blk_drewN ?_ _ | refine blk_drew ?_ | refine blk_alloc ?_ _)); exact BK323.out) hb); have n5_ := Aside0.mk (blk_below (g := gb333) (o := .cells #[.int .i64 t328, .slice Ao47 t329.length co47] 26 (0, 0)) (by (with_reducible repeat (first | refine blk_drewN ?_ _ | refine blk_drew ?_ | refine blk_alloc ?_ _)); refine blk_put (cs := #[.int .i64 t328, .slice none 0 0]) ?_ 1 _ rfl; (with_reducible repeat (first | refine blk_drewN ?_ _ | refine blk_drew ?_ | refine blk_alloc ?_ _)); refine blk_put (cs := #[.int .i64 0, .slice none 0 0]) ?_ 0 _ rfl; (with_reducible repeat (first | refine blk_drewN ?_ _ | refine blk_drew ?_ | refine blk_alloc ?_ _)); exact BK333.out) hb); have n6_ := Aside0.mk (below_step (bl3_ HB.out GE317.out GE323.out GE333.out) hb); clear HO_318001; clear HO_324001; clear HO331; clear BK317; clear BK323; clear BK333; clear HB; have HO_318001 := n0_; have HO_324001 := n1_; have HO331 := n2_; have BK317 := n3_; have BK323 := n4_; have BK333 := n5_; have HB := n6_; clear n0_ n1_ n2_ n3_ n4_ n5_ n6_; (try clear hb); (try clear hb2); (try clear hk); (try clear hi)))
         go_meet
         case rel => exact ⟨_, (true), rs_, H', ⟨by have := HJ4.out; first | omega | exact Nat.le_refl _⟩, ⟨ra_ HO_318001.out⟩, ⟨ra_ HO_324001.out⟩, ⟨by (with_reducible repeat (first | apply Kd.R_alloc | apply Kd.R_drewN | apply Kd.R_drew)); exact Kd.R_mono HO331.out (fun _ hk => ⟨hk.1.2, hk.2⟩)⟩, ⟨bk_ BK317.out⟩, ⟨bk_ BK323.out⟩, ⟨bk_ BK333.out⟩, ⟨bl3_ HB.out GE317.out GE323.out GE333.out⟩⟩
       case rest =>
        clear HC36
        try clear c1
        try clear c2
        try clear c2b0
        try clear c2b1
        try clear p2
        try clear c3
        try clear c4
        try clear c5
        try clear c7
        try clear c12
        try clear c15
        try clear c16
        try clear c17
        try clear c18
        try clear c21
        try clear c25
        try clear c28
        try clear c28b0
        try clear c29
        try clear c34
        try clear c34b0
        try clear c34b1
        try clear c37
        try clear c44
        try clear c45
        try clear c49
        try clear c50
        try clear c51
        try clear c53
        try clear c56
        try clear c57
        try clear c59
        try clear hcz13_0
        try clear hcz13_1
        try clear hcz18_0
        try clear hcz18_1
        try clear hcz19_0
        try clear hcz19_1
        try clear hcz22_0
        try clear hcz22_1
        try clear hcz23_0
        try clear hcz23_1
        try clear hcz30_0
        try clear hcz30_1
        try clear hcz32_0
        try clear hcz32_1
        try clear hcz38_0
        try clear hcz38_1
        try clear hcz40_0
        try clear hcz40_1
        try clear hcz46_0
        try clear hcz46_1
        try clear hcz52_0
        try clear hcz52_1
        try clear hcz54_0
        try clear hcz54_1
        try clear hcz58_0
        try clear hcz58_1
        try clear hcz60_0
        try clear hcz60_1
        try clear hcz8_0
        try clear hcz8_1
        try clear hfz13_0
        try clear hfz13_1
        try clear hfz18_0
        try clear hfz18_1
        try clear hfz19_0
        try clear hfz19_1
        try clear hfz22_0
        try clear hfz22_1
        try clear hfz23_0
        try clear hfz23_1
        try clear hfz30_0
        try clear hfz30_1
        try clear hfz32_0
        try clear hfz32_1
        try clear hfz38_0
        try clear hfz38_1
        try clear hfz40_0
        try clear hfz40_1
        try clear hfz46_0
        try clear hfz46_1
        try clear hfz52_0
        try clear hfz52_1
        try clear hfz54_0
        try clear hfz54_1
        try clear hfz58_0
        try clear hfz58_1
        try clear hfz60_0
        try clear hfz60_1
        try clear hfz8_0
        try clear hfz8_1
        try clear p2
        obtain ⟨kq, x57_35, rfl, HA, HJ35, HO_318001, HO_324001, HO_334001, BK317, BK323, BK333, HB⟩ := hcut
        have hl324001_35 := (Kd.R_reads' HO_324001.out).1
        rw [hl324001_35] at HO_324001
        (try simp only [hl324001_35])
        (try simp only [hl324001_35] at BK317)
        (try simp only [hl324001_35] at BK323)
        (try simp only [hl324001_35] at BK333)
        (try simp only [hl324001_35] at HO_318001)
        (try simp only [hl324001_35] at HO_334001)
        cases kq with
        | zero => exact absurd HA.out (by simp [laws_FnExactReadTree.j1])
        | succ kj35 =>
         have H := HA.out
         clear HA
         simp only [laws_FnExactReadTree.j1] at H
         by_cases c62 : x57_35 = true
         ·subst c62
          have H1 : (some false) = some r := by rw [if_pos rfl] at H; exact H
          clear H
          have H := H1
          clear H1
          obtain rfl := Option.some.inj H
          go_wp2
          go_ret
          exact ⟨re_, bl3_ HB.out GE317.out GE323.out GE333.out⟩
         ·replace c62 := Bool.eq_false_iff.mpr c62
          subst c62
          have H1 : ((laws_heldTree.f kj35 t318 t326 1).bind fun t335 => (if t335 < 0 then (some false) else (if t335 = t325 then (some true) else (some false)))) = some r := by rw [if_neg (show ¬ (false = true) by decide)] at H; exact H
          clear H
          have H := H1
          clear H1
          replace H := Option.bind_eq_some_iff.mp H
          obtain ⟨t335, A630, H⟩ := H
          replace H : (if t335 < 0 then (some false) else (if t335 = t325 then (some true) else (some false))) = some r := H
          have A63 := Aside0.mk A630
          clear A630
          by_cases c64 : t335 < 0
          ·rw [if_pos c64] at H
           have c64b0 := decide_eq_true c64
           clear c64
           obtain rfl := Option.some.inj H
           have hnb65 := NB323_317.out
           have hnc65 := NB317_323.out
           have hnb66 := NB323_333.out
           have hnc66 := NB333_323.out
           obtain ⟨hcz67_0, hcz67_1, hfz67_0, hfz67_1⟩ := cz2_ BK323.out
           go_wp2_with (first | ((with_reducible refine gate_callee (f := 18) rfl ?_); refine goesL_ (some 60) rfl rfl Tryd.func18 (by kernel_rfl) rfl #[.agg #[.int .i64 t318, .slice Ao14 t326.length co14], .int .i64 1] rfl mp_ ?_; (with_reducible refine (laws_heldTree.calls kj35 t318 _ _ t326 1 t335 _ ?side1 ?side2 A63.out).mono ?_); (case side1 => exact ca_ (Kd.R_reads' HO_324001.out).2.2); (case side2 => exact (Kd.R_reads' HO_324001.out).2.1); rintro e w68 ⟨rfl, hb⟩; refine ⟨_, rfl, ?_⟩; have n0_ := Aside0.mk (Kd.R_below (ra_ HO_318001.out) hb); have n1_ := Aside0.mk (Kd.R_below (ra_ HO_324001.out) hb); have n2_ := Aside0.mk (Kd.R_below (ra_ HO_334001.out) hb); have n3_ := Aside0.mk (blk_below (g := gb317) (o := .cells #[.int .i64 t312, .slice Ao9 t313.length co9] 26 (0, 0)) (bk_ BK317.out) hb); have n4_ := Aside0.mk (blk_below (g := gb323) (o := .cells #[.int .i64 t318, .slice Ao14 t326.length co14] 26 (0, 0)) (bk_ BK323.out) hb); have n5_ := Aside0.mk (blk_below (g := gb333) (o := .cells #[.int .i64 t328, .slice Ao47 t329.length co47] 26 (0, 0)) (bk_ BK333.out) hb); have n6_ := Aside0.mk (below_step (bl3_ HB.out GE317.out GE323.out GE333.out) hb); clear HO_318001; clear HO_324001; clear HO_334001; clear BK317; clear BK323; clear BK333; clear HB; have HO_318001 := n0_; have HO_324001 := n1_; have HO_334001 := n2_; have BK317 := n3_; have BK323 := n4_; have BK333 := n5_; have HB := n6_; clear n0_ n1_ n2_ n3_ n4_ n5_ n6_; (try clear hb); (try clear hb2); (try clear hk); (try clear hi)))
           go_ret
           exact ⟨re_, bl3_ HB.out GE317.out GE323.out GE333.out⟩
          ·rw [if_neg c64] at H
           have c64b0 := decide_eq_false c64
           clear c64
           by_cases c69 : t335 = t325
           ·rw [if_pos c69] at H
            have c69b0 : (t335 == t325) = true := beq_iff_eq.mpr c69
            have c69b1 : (t335 != t325) = false := bne_eq_false_iff_eq.mpr c69
            clear c69
            obtain rfl := Option.some.inj H
            have hnb70 := NB323_317.out
            have hnc70 := NB317_323.out
            have hnb71 := NB323_333.out
            have hnc71 := NB333_323.out
            obtain ⟨hcz72_0, hcz72_1, hfz72_0, hfz72_1⟩ := cz2_ BK323.out
            go_wp2_with (first | ((with_reducible refine gate_callee (f := 18) rfl ?_); refine goesL_ (some 60) rfl rfl Tryd.func18 (by kernel_rfl) rfl #[.agg #[.int .i64 t318, .slice Ao14 t326.length co14], .int .i64 1] rfl mp_ ?_; (with_reducible refine (laws_heldTree.calls kj35 t318 _ _ t326 1 t335 _ ?side1 ?side2 A63.out).mono ?_); (case side1 => exact ca_ (Kd.R_reads' HO_324001.out).2.2); (case side2 => exact (Kd.R_reads' HO_324001.out).2.1); rintro e w73 ⟨rfl, hb⟩; refine ⟨_, rfl, ?_⟩; have n0_ := Aside0.mk (Kd.R_below (ra_ HO_318001.out) hb); have n1_ := Aside0.mk (Kd.R_below (ra_ HO_324001.out) hb); have n2_ := Aside0.mk (Kd.R_below (ra_ HO_334001.out) hb); have n3_ := Aside0.mk (blk_below (g := gb317) (o := .cells #[.int .i64 t312, .slice Ao9 t313.length co9] 26 (0, 0)) (bk_ BK317.out) hb); have n4_ := Aside0.mk (blk_below (g := gb323) (o := .cells #[.int .i64 t318, .slice Ao14 t326.length co14] 26 (0, 0)) (bk_ BK323.out) hb); have n5_ := Aside0.mk (blk_below (g := gb333) (o := .cells #[.int .i64 t328, .slice Ao47 t329.length co47] 26 (0, 0)) (bk_ BK333.out) hb); have n6_ := Aside0.mk (below_step (bl3_ HB.out GE317.out GE323.out GE333.out) hb); clear HO_318001; clear HO_324001; clear HO_334001; clear BK317; clear BK323; clear BK333; clear HB; have HO_318001 := n0_; have HO_324001 := n1_; have HO_334001 := n2_; have BK317 := n3_; have BK323 := n4_; have BK333 := n5_; have HB := n6_; clear n0_ n1_ n2_ n3_ n4_ n5_ n6_; (try clear hb); (try clear hb2); (try clear hk); (try clear hi)))
            go_ret
            exact ⟨re_, bl3_ HB.out GE317.out GE323.out GE333.out⟩
           ·rw [if_neg c69] at H
            have c69b0 : (t335 == t325) = false := beq_eq_false_iff_ne.mpr c69
            have c69b1 : (t335 != t325) = true := bne_iff_ne.mpr c69
            obtain rfl := Option.some.inj H
            have hnb74 := NB323_317.out
            have hnc74 := NB317_323.out
            have hnb75 := NB323_333.out
            have hnc75 := NB333_323.out
            obtain ⟨hcz76_0, hcz76_1, hfz76_0, hfz76_1⟩ := cz2_ BK323.out
            go_wp2_with (first | ((with_reducible refine gate_callee (f := 18) rfl ?_); refine goesL_ (some 60) rfl rfl Tryd.func18 (by kernel_rfl) rfl #[.agg #[.int .i64 t318, .slice Ao14 t326.length co14], .int .i64 1] rfl mp_ ?_; (with_reducible refine (laws_heldTree.calls kj35 t318 _ _ t326 1 t335 _ ?side1 ?side2 A63.out).mono ?_); (case side1 => exact ca_ (Kd.R_reads' HO_324001.out).2.2); (case side2 => exact (Kd.R_reads' HO_324001.out).2.1); rintro e w77 ⟨rfl, hb⟩; refine ⟨_, rfl, ?_⟩; have n0_ := Aside0.mk (Kd.R_below (ra_ HO_318001.out) hb); have n1_ := Aside0.mk (Kd.R_below (ra_ HO_324001.out) hb); have n2_ := Aside0.mk (Kd.R_below (ra_ HO_334001.out) hb); have n3_ := Aside0.mk (blk_below (g := gb317) (o := .cells #[.int .i64 t312, .slice Ao9 t313.length co9] 26 (0, 0)) (bk_ BK317.out) hb); have n4_ := Aside0.mk (blk_below (g := gb323) (o := .cells #[.int .i64 t318, .slice Ao14 t326.length co14] 26 (0, 0)) (bk_ BK323.out) hb); have n5_ := Aside0.mk (blk_below (g := gb333) (o := .cells #[.int .i64 t328, .slice Ao47 t329.length co47] 26 (0, 0)) (bk_ BK333.out) hb); have n6_ := Aside0.mk (below_step (bl3_ HB.out GE317.out GE323.out GE333.out) hb); clear HO_318001; clear HO_324001; clear HO_334001; clear BK317; clear BK323; clear BK333; clear HB; have HO_318001 := n0_; have HO_324001 := n1_; have HO_334001 := n2_; have BK317 := n3_; have BK323 := n4_; have BK333 := n5_; have HB := n6_; clear n0_ n1_ n2_ n3_ n4_ n5_ n6_; (try clear hb); (try clear hb2); (try clear hk); (try clear hi)))
            go_ret
            exact ⟨re_, bl3_ HB.out GE317.out GE323.out GE333.out⟩
      ·rw [if_neg c34] at H
       have c34b0 : (t327 == t325) = false := beq_eq_false_iff_ne.mpr c34
       have c34b1 : (t327 != t325) = true := bne_iff_ne.mpr c34
       obtain rfl := Option.some.inj H
       have hnb78 := NB323_317.out
       have hnc78 := NB317_323.out
       obtain ⟨hcz79_0, hcz79_1, hfz79_0, hfz79_1⟩ := cz2_ BK323.out
       go_wp2_with (first | ((with_reducible refine gate_callee (f := 17) rfl ?_); refine goesL_ (some 35) rfl rfl Tryd.func17 (by kernel_rfl) rfl #[.agg #[.int .i64 t318, .slice Ao14 t319.length co14], .int .i64 1] rfl mp_ ?_; (with_reducible refine (laws_markTree.calls kj4 t318 (fun k_ => some k_ = (.slice Ao14 t319.length co14 : Value).ownBlock) (.slice Ao14 t319.length co14) t319 1 t325 t326 w _ ?side1 ?side2 A26.out).mono ?_); (case side1 => repeat (first | (with_reducible first | exact HB.out | apply below_alloc | apply pw_below_drewN | apply below_drew1 | refine below_set ?_ GE317.out | refine below_set ?_ GE323.out) | exact HB.out)); (case side2 => exact Kd.R_tight rfl HO_324001.out); rintro e w80 ⟨rfl, hy0, hb, hkp⟩; refine ⟨_, rfl, ?_⟩; have n0_ := Aside0.mk (Kd.R_mono (ok' := fun k_ => some k_ ≠ (.slice Ao14 t319.length co14 : Value).ownBlock) (Kd.R_keptB (HO_318001.out) hkp (fun k_ hk_ hs_ => (hk_) hs_)) (fun k_ hk_ => hk_.1)); have n1_ := Aside0.mk (Kd.R_reok rfl hy0 (fun k_ e_ => HO_324001.out.1 k_ e_)); have n2_ := Aside0.mk (blk_kept (bk_ BK317.out) hkp (fun hs_ => (fun e_ => (Kd.R_ne HO_324001.out BK317.out (by decide)) e_) hs_)); have n3_ := Aside0.mk (blk_kept (bk_ BK323.out) hkp (fun hs_ => (fun e_ => (Kd.R_ne HO_324001.out BK323.out (by decide)) e_) hs_)); have n4_ := Aside0.mk (hb); clear HO_318001; clear HO_324001; clear BK317; clear BK323; clear HB; have HO_318001 := n0_; have HO_324001 := n1_; have BK317 := n2_; have BK323 := n3_; have HB := n4_; clear n0_ n1_ n2_ n3_ n4_; (try clear hb); (try clear hkp); (try clear hy0); obtain ⟨hcz81_0, hcz81_1, hfz81_0, hfz81_1⟩ := cz2_ BK323.out) | ((with_reducible refine gate_callee (f := 18) rfl ?_); refine goesL_ (some 38) rfl rfl Tryd.func18 (by kernel_rfl) rfl #[.agg #[.int .i64 t318, .slice Ao14 t326.length co14], .int .i64 1] rfl (by (try simp only [List.map_toArray, List.map_cons, List.map_nil]); first | done | (rw [show t326.length = t319.length from (Kd.R_reads' HO_324001.out).1.symm] <;> rfl) | rfl | (simp only [List.length_drop, List.length_take]; rfl)) ?_; (with_reducible refine (laws_heldTree.calls kj4 t318 _ _ t326 1 t327 _ ?side1 ?side2 A27.out).mono ?_); (case side1 => exact ca_ (Kd.R_reads' HO_324001.out).2.2); (case side2 => rw [show t326.length = t319.length from (Kd.R_reads' HO_324001.out).1.symm]; exact (Kd.R_reads' HO_324001.out).2.1); rintro e w82 ⟨rfl, hb⟩; refine ⟨_, rfl, ?_⟩; have n0_ := Aside0.mk (Kd.R_below (ra_ HO_318001.out) hb); have n1_ := Aside0.mk (Kd.R_below (ra_ HO_324001.out) hb); have n2_ := Aside0.mk (blk_below (g := gb317) (o := .cells #[.int .i64 t312, .slice Ao9 t313.length co9] 26 (0, 0)) (bk_ BK317.out) hb); have n3_ := Aside0.mk (blk_below (g := gb323) (o := .cells #[.int .i64 t318, .slice Ao14 t319.length co14] 26 (0, 0)) (bk_ BK323.out) hb); have n4_ := Aside0.mk (below_step (bl2_ HB.out GE317.out GE323.out) hb); clear HO_318001; clear HO_324001; clear BK317; clear BK323; clear HB; have HO_318001 := n0_; have HO_324001 := n1_; have BK317 := n2_; have BK323 := n3_; have HB := n4_; clear n0_ n1_ n2_ n3_ n4_; (try clear hb); (try clear hb2); (try clear hk); (try clear hi)))
       go_ret
       exact ⟨re_, bl2_ HB.out GE317.out GE323.out⟩

end Go.Proofs.YtddaiabilhjcpaaDoor.A
