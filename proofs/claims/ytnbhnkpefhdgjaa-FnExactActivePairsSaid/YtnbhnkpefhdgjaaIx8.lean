/- For functions of the translation: a Lean function each, and that the call of the Go function comes to its answer. Written by this session's own program (myprint.py, over the kit's printer). -/
import Derived.Test.YtnbhnkpefhdgjaaIx0
import Derived.Test.YtnbhnkpefhdgjaaIx6
import Derived.Test.YtnbhnkpefhdgjaaIx7
--compacted
namespace Go.Proofs.Ytnbhnkpefhdgjaa.I
open Go.RowKit Go.Proofs.YtnbhnkpefhdgjaaW.PrintWords Go.Proofs.YtnbhnkpefhdgjaaW.PrintLast Go.Proofs.YtnbhnkpefhdgjaaW.PrintMore
attribute [local go_sem] max2_int min2_int max_two min_two max_three min_three max_four min_four   -- for this text's walks alone
set_option linter.unusedVariables false
set_option linter.unusedSimpArgs false

/-! ### spec_ActivePairs: function 47 -/
mutual
def spec_ActivePairs.l0 : Nat → List (S68) → List (List Int) → List Int → List (S97) → Int → Option ((List (S97)) × Int)
 | 0, _, _, _, _, _ => none
 | k + 1, x2, x8, x9, x10, x11 => if x11 < (x9.length : Int) then (spec_ActivePairs.l1 k x2 x8 x9 x10 x11 (wrap64 (x11 + 1))) else (some (x10, 0))
def spec_ActivePairs.l1 : Nat → List (S68) → List (List Int) → List Int → List (S97) → Int → Int → Option ((List (S97)) × Int)
 | 0, _, _, _, _, _, _ => none
 | k + 1, x2, x8, x9, x10, x11, x12 => if x12 < (x9.length : Int) then (if 0 ≤ x11 then (if x11 < (x2.length : Int) then (if 0 ≤ x12 then (if x12 < (x2.length : Int) then ((spec_l30Square.f ((rd_T68 x2 x11).f0) ((rd_T68 x2 x11).f1) ((rd_T68 x2 x12).f0) ((rd_T68 x2 x12).f1)).bind fun t261 => (if x11 < (x8.length : Int) then (if x12 < ((rd_L5 x8 x11).length : Int) then (if t261 = (wrap64 ((rd (rd_L5 x8 x11) x12) * (rd (rd_L5 x8 x11) x12))) then (if x11 < (x9.length : Int) then (if x10.length < 8796093022208 then (spec_ActivePairs.l1 k x2 x8 x9 (x10 ++ [(⟨rd x9 x11, rd x9 x12⟩ : S97)]) x11 (wrap64 (x12 + 1))) else (none)) else (none)) else (spec_ActivePairs.l1 k x2 x8 x9 x10 x11 (wrap64 (x12 + 1)))) else (none)) else (none))) else (none)) else (none)) else (none)) else (none)) else (spec_ActivePairs.l0 k x2 x8 x9 x10 (wrap64 (x11 + 1)))
end
def spec_ActivePairs.f (k : Nat) (a0_0 : Int) (l0_1 : List (S71)) (a1 : Int) (l2 : List (S68)) : Option ((List (S97)) × Int) := (spec_ValidPacking.f k a0_0 l0_1 a1 l2).bind fun t249 => (if t249 = true then ((spec_l30Distances.f k a0_0 l0_1).bind fun t250 => ((spec_l30Leaves.f k a0_0 l0_1).bind fun t253 => (spec_ActivePairs.l0 k l2 t250 t253 (([] : List (S97))) 0))) else (some (([] : List (S97)), 1)))
theorem spec_ActivePairs.mono_l : ∀ k, (∀ y0 y1 y2 y3 y4, LeO (spec_ActivePairs.l0 k y0 y1 y2 y3 y4) (spec_ActivePairs.l0 (k + 1) y0 y1 y2 y3 y4)) ∧ (∀ y0 y1 y2 y3 y4 y5, LeO (spec_ActivePairs.l1 k y0 y1 y2 y3 y4 y5) (spec_ActivePairs.l1 (k + 1) y0 y1 y2 y3 y4 y5))
 | 0 => ⟨fun _ _ _ _ _ r h => by simp [spec_ActivePairs.l0] at h, fun _ _ _ _ _ _ r h => by simp [spec_ActivePairs.l1] at h⟩
 | k + 1 => by
  obtain ⟨ih0, ih1⟩ := spec_ActivePairs.mono_l k
  refine ⟨?_, ?_⟩
  ·intro y0 y1 y2 y3 y4
   unfold spec_ActivePairs.l0
   repeat' first
   | (with_reducible exact ih0 _ _ _ _ _)
   | (with_reducible exact ih1 _ _ _ _ _ _)
   | (with_reducible exact spec_ValidPacking.mono _ _ _ _ _)
   | (with_reducible exact spec_l30Distances.mono _ _ _)
   | (with_reducible exact spec_l30Leaves.mono _ _ _)
   | (with_reducible exact LeO.refl _)
   | (with_reducible exact LeO.none _)
   | (with_reducible refine LeO.ite ?_ ?_)
   | (with_reducible refine LeO.bind ?_ (fun _ => ?_))
   | exact spec_ValidPacking.mono _ _ _ _ _
   | exact spec_l30Distances.mono _ _ _
   | exact spec_l30Leaves.mono _ _ _
   | exact LeO.none _
   | refine LeO.ite ?_ ?_
   | refine LeO.bind ?_ (fun _ => ?_)
  ·intro y0 y1 y2 y3 y4 y5
   unfold spec_ActivePairs.l1
   repeat' first
   | (with_reducible exact ih0 _ _ _ _ _)
   | (with_reducible exact ih1 _ _ _ _ _ _)
   | (with_reducible exact spec_ValidPacking.mono _ _ _ _ _)
   | (with_reducible exact spec_l30Distances.mono _ _ _)
   | (with_reducible exact spec_l30Leaves.mono _ _ _)
   | (with_reducible exact LeO.refl _)
   | (with_reducible exact LeO.none _)
   | (with_reducible refine LeO.ite ?_ ?_)
   | (with_reducible refine LeO.bind ?_ (fun _ => ?_))
   | exact spec_ValidPacking.mono _ _ _ _ _
   | exact spec_l30Distances.mono _ _ _
   | exact spec_l30Leaves.mono _ _ _
   | exact LeO.none _
   | refine LeO.ite ?_ ?_
   | refine LeO.bind ?_ (fun _ => ?_)
theorem spec_ActivePairs.mono : ∀ a0 a1 a2 a3 k, LeO (spec_ActivePairs.f k a0 a1 a2 a3) (spec_ActivePairs.f (k + 1) a0 a1 a2 a3) := by
 intro a0 a1 a2 a3 k
 obtain ⟨ih0, ih1⟩ := spec_ActivePairs.mono_l k
 unfold spec_ActivePairs.f
 repeat' first
   | (with_reducible exact ih0 _ _ _ _ _)
   | (with_reducible exact ih1 _ _ _ _ _ _)
   | (with_reducible exact spec_ValidPacking.mono _ _ _ _ _)
   | (with_reducible exact spec_l30Distances.mono _ _ _)
   | (with_reducible exact spec_l30Leaves.mono _ _ _)
   | (with_reducible exact LeO.refl _)
   | (with_reducible exact LeO.none _)
   | (with_reducible refine LeO.ite ?_ ?_)
   | (with_reducible refine LeO.bind ?_ (fun _ => ?_))
   | exact spec_ValidPacking.mono _ _ _ _ _
   | exact spec_l30Distances.mono _ _ _
   | exact spec_l30Leaves.mono _ _ _
   | exact LeO.none _
   | refine LeO.ite ?_ ?_
   | refine LeO.bind ?_ (fun _ => ?_)
def spec_ActivePairs.T12 : Bool × List (List Nat × List Nat) := (true, [([], []), ([], []), ([0, 1], [0, 1]), ([2], [2]), ([], []), ([], []), ([4, 5], [4, 5]), ([6], [6]), ([3, 7], [3, 7]), ([], []), ([], []), ([9, 10], [9, 10]), ([11], [11]), ([], []), ([12, 13], [12, 13]), ([14], [14]), ([], []), ([], []), ([16, 17], [16, 17]), ([18], [18]), ([], []), ([19, 20], [19, 20]), ([21], [21]), ([15, 22], [15, 22]), ([8, 23], [8, 23])])
def spec_ActivePairs.B12 : List Nat := [0, 0, 3, 7, 0, 0, 48, 112, 255, 0, 0, 1536, 3584, 0, 15872, 32256, 0, 0, 196608, 458752, 0, 2031616, 4128768, 8388096, 16777215]
theorem spec_ActivePairs.tab12 : rtab .any (opsOf Try.f47 12) = spec_ActivePairs.T12 := by kernel_rfl
theorem spec_ActivePairs.bits12 : waitsOk spec_ActivePairs.T12.2 spec_ActivePairs.B12 = true := by kernel_rfl
def spec_ActivePairs.T13 : Bool × List (List Nat × List Nat) := (true, [([], []), ([], []), ([], []), ([1, 2], [1, 2]), ([3], [3]), ([], []), ([], []), ([5, 6], [5, 6]), ([7], [7]), ([4, 8], [4, 8]), ([9], [9]), ([0, 10], [0, 10]), ([11, 11, 0, 1, 2, 3, 4, 5, 6, 7, 8, 9, 10, 11], [0, 11])])
def spec_ActivePairs.B13 : List Nat := [0, 0, 0, 6, 14, 0, 0, 96, 224, 510, 1022, 2047, 4095]
theorem spec_ActivePairs.tab13 : rtab .any (opsOf Try.f47 13) = spec_ActivePairs.T13 := by kernel_rfl
theorem spec_ActivePairs.bits13 : waitsOk spec_ActivePairs.T13.2 spec_ActivePairs.B13 = true := by kernel_rfl
set_option maxHeartbeats 8000000 in
set_option maxRecDepth 100000 in
theorem spec_ActivePairs.calls (k : Nat) (a0_0 : Int) (A0_1 : Option Addr) (c0_1 : Nat) (l0_1 : List (S71)) (a1 : Int) (A2 : Option Addr) (c2 : Nat) (l2 : List (S68)) (r1 : List (S97)) (r2 : Int) (w : World) (hr0_1 : Kd.C k71 w A0_1 l0_1.length l0_1) (hc0_1 : l0_1.length ≤ c0_1) (hr2 : Kd.C k68 w A2 l2.length l2) (hc2 : l2.length ≤ c2) (h : spec_ActivePairs.f k a0_0 l0_1 a1 l2 = some (r1, r2)) :
  Calls Try.prog 47 #[.agg #[.int .i64 a0_0, .slice A0_1 l0_1.length c0_1], .int .i64 a1, .slice A2 l2.length c2] w fun e w' => ∃ v0_ : Value, e = .returned (.tuple #[v0_, .int .i64 r2]) ∧ Kd.R k97 97 w' w.heap.size (fun _ => True) v0_ r1 ∧ Below w.heap.size w w' := by
 have hu29 := Try.underlying29
 have hu68 := Try.underlying68
 have hu97 := Try.underlying97
 have HR0_1 := Aside0.mk hr0_1
 have HC0_1 := Aside0.mk hc0_1
 clear hr0_1 hc0_1
 have HR2 := Aside0.mk hr2
 have HC2 := Aside0.mk hc2
 clear hr2 hc2
 have HB := Aside0.mk (Below.refl w.heap.size w)
 have H : ((spec_ValidPacking.f k a0_0 l0_1 a1 l2).bind fun t249 => (if t249 = true then ((spec_l30Distances.f k a0_0 l0_1).bind fun t250 => ((spec_l30Leaves.f k a0_0 l0_1).bind fun t253 => (spec_ActivePairs.l0 k l2 t250 t253 (([] : List (S97))) 0))) else (some (([] : List (S97)), 1)))) = some (r1, r2) := h
 clear h
 replace H := Option.bind_eq_some_iff.mp H
 obtain ⟨t249, A40, H⟩ := H
 replace H : (if t249 = true then ((spec_l30Distances.f k a0_0 l0_1).bind fun t250 => ((spec_l30Leaves.f k a0_0 l0_1).bind fun t253 => (spec_ActivePairs.l0 k l2 t250 t253 (([] : List (S97))) 0))) else (some (([] : List (S97)), 1))) = some (r1, r2) := H
 have A4 := Aside0.mk A40
 clear A40
 by_cases c5 : t249 = true
 ·subst c5
  have H1 : ((spec_l30Distances.f k a0_0 l0_1).bind fun t250 => ((spec_l30Leaves.f k a0_0 l0_1).bind fun t253 => (spec_ActivePairs.l0 k l2 t250 t253 (([] : List (S97))) 0))) = some (r1, r2) := by rw [if_pos rfl] at H; exact H
  clear H
  have H := H1
  clear H1
  replace H := Option.bind_eq_some_iff.mp H
  obtain ⟨t250, A60, H⟩ := H
  replace H : ((spec_l30Leaves.f k a0_0 l0_1).bind fun t253 => (spec_ActivePairs.l0 k l2 t250 t253 (([] : List (S97))) 0)) = some (r1, r2) := H
  have A6 := Aside0.mk A60
  clear A60
  replace H := Option.bind_eq_some_iff.mp H
  obtain ⟨t253, A70, H⟩ := H
  replace H : (spec_ActivePairs.l0 k l2 t250 t253 (([] : List (S97))) 0) = some (r1, r2) := H
  have A7 := Aside0.mk A70
  clear A70
  obtain ⟨y256, hy256⟩ : ∃ y_ : List (S97), y_ = (([] : List (S97))) := ⟨_, rfl⟩
  replace H : (spec_ActivePairs.l0 k l2 t250 t253 y256 0) = some (r1, r2) := yh_ H hy256
  have Ny256 := Aside0.mk hy256
  clear hy256
  have H' := Aside0.mk H
  clear H
  go_enter Try.func47, Try.ntmps47
  go_wp2_with (first | ((with_reducible refine gate_dst (N := 3) rfl ?_); refine box_event ?hg (N := 3) ?hd (cs := #[.int .i64 a0_0, .slice A0_1 l0_1.length c0_1]) (t := 29) ?hr ?_; (case hd => rfl); (case hg => rfl); (case hr => first | (go_simp; done) | (go_simp; rfl)); intro gb248 hg w8 hbox hb; have n0_ := Aside0.mk (below_step (bl0_ HB.out) hb); have n1_ := Aside0.mk (hbox); have n2_ := Aside0.mk ((by rw [hg]; exact (below_size (bl0_ HB.out)) : w.heap.size ≤ gb248)); have n3_ := Aside0.mk ((by rw [hg]; exact (below_size (bl0_ HB.out)) : w.heap.size ≤ gb248)); clear HB; have HB := n0_; have BK248 := n1_; have GW248 := n2_; have GE248 := n3_; clear n0_ n1_ n2_ n3_; clear hb hbox hg; have hcz9_0 : w8.cell? ⟨gb248, 0, none⟩ = some (.int .i64 a0_0) := (blk_cell BK248.out 0).trans rfl; have hcz9_1 : w8.cell? ⟨gb248, 1, none⟩ = some (.slice A0_1 l0_1.length c0_1) := (blk_cell BK248.out 1).trans rfl; have hfz9_0 := blk_frozen BK248.out 0; have hfz9_1 := blk_frozen BK248.out 1) | ((with_reducible refine gate_callee (f := 37) rfl ?_); refine goesL_ (some 16) rfl rfl Try.func37 (by kernel_rfl) rfl #[.agg #[.int .i64 a0_0, .slice A0_1 l0_1.length c0_1], .int .i64 a1, .slice A2 l2.length c2] rfl mp_ ?_; (with_reducible refine (spec_ValidPacking.calls k a0_0 _ _ l0_1 a1 _ _ l2 true _ ?side1 ?side2 ?side3 ?side4 A4.out).mono ?_); (case side1 => exact ca_ (Kd.C_below HR0_1.out HB.out)); (case side2 => exact HC0_1.out); (case side3 => exact ca_ (Kd.C_below HR2.out HB.out)); (case side4 => exact HC2.out); rintro e w10 ⟨rfl, hb⟩; refine ⟨_, rfl, ?_⟩; have n0_ := Aside0.mk (blk_below (g := gb248) (o := .cells #[.int .i64 a0_0, .slice A0_1 l0_1.length c0_1] 29 (0, 0)) (bk_ BK248.out) hb); have n1_ := Aside0.mk (below_step (bl1_ HB.out GE248.out) hb); clear BK248; clear HB; have BK248 := n0_; have HB := n1_; clear n0_ n1_; (try clear hb); (try clear hb2); (try clear hk); (try clear hi)) | ((with_reducible refine gate_callee (f := 70) rfl ?_); refine goesL_ (some 18) rfl rfl Try.func70 (by kernel_rfl) rfl #[.pointer (some ⟨gb248, 0, none⟩)] rfl mp_ ?_; (with_reducible refine (spec_l30Distances.calls k gb248 a0_0 A0_1 c0_1 l0_1 t250 _ ?side1 ?side2 ?side3 A6.out).mono ?_); (case side1 => exact by (with_reducible repeat (first | refine blk_drewN ?_ _ | refine blk_drew ?_ | refine blk_alloc ?_ _)); exact BK248.out); (case side2 => exact ca_ (Kd.C_below HR0_1.out HB.out)); (case side3 => exact HC0_1.out); rintro e w11 ⟨v251, rfl, ho0, hb⟩; refine ⟨_, rfl, ?_⟩; have n0_ := Aside0.mk (Kd.S_lower ho0 (below_size (bl1_ HB.out GE248.out))); have n1_ := Aside0.mk (blk_below (g := gb248) (o := .cells #[.int .i64 a0_0, .slice A0_1 l0_1.length c0_1] 29 (0, 0)) (bk_ BK248.out) hb); have n2_ := Aside0.mk (below_step (bl1_ HB.out GE248.out) hb); clear BK248; clear HB; have HO252 := n0_; have BK248 := n1_; have HB := n2_; clear n0_ n1_ n2_; (try clear hb); (try clear hb2); (try clear hk); (try clear hi); (try clear ho0)) | ((with_reducible refine gate_callee (f := 68) rfl ?_); refine goesL_ (some 19) rfl rfl Try.func68 (by kernel_rfl) rfl #[.pointer (some ⟨gb248, 0, none⟩)] rfl mp_ ?_; (with_reducible refine (spec_l30Leaves.calls k gb248 a0_0 A0_1 c0_1 l0_1 t253 _ ?side1 ?side2 ?side3 A7.out).mono ?_); (case side1 => exact by (with_reducible repeat (first | refine blk_drewN ?_ _ | refine blk_drew ?_ | refine blk_alloc ?_ _)); exact BK248.out); (case side2 => exact ca_ (Kd.C_below HR0_1.out HB.out)); (case side3 => exact HC0_1.out); rintro e w12 ⟨v254, rfl, ho0, hb⟩; refine ⟨_, rfl, ?_⟩; have n0_ := Aside0.mk (Kd.S_elder' (by (with_reducible repeat (first | apply Kd.S_alloc | apply Kd.S_drewN | apply Kd.S_drew)); exact HO252.out) (Kd.R_base ho0) hb); have n1_ := Aside0.mk (Kd.R_lower ho0 (below_size (bl1_ HB.out GE248.out))); have n2_ := Aside0.mk (blk_below (g := gb248) (o := .cells #[.int .i64 a0_0, .slice A0_1 l0_1.length c0_1] 29 (0, 0)) (bk_ BK248.out) hb); have n3_ := Aside0.mk (below_step (bl1_ HB.out GE248.out) hb); clear HO252; clear BK248; clear HB; have HO252 := n0_; have HO255 := n1_; have BK248 := n2_; have HB := n3_; clear n0_ n1_ n2_ n3_; (try clear hb); (try clear hb2); (try clear hk); (try clear hi); (try clear ho0)) | ((with_reducible refine gate_dst (N := 20) rfl ?_); refine Kd.R_lit k97 _ 97 ?hg (N := 20) ?hd (xs := ([] : List (S97))) (inner := []) (ok := fun _ => True) (okp := fun _ => True) ?hr ?hp (fun _ hk => hk) trivial (Below.refl _ _) (Nat.le_refl _) (by simp) ?_; (case hd => rfl); (case hg => rfl); (case hr => first | (go_simp; done) | (go_simp; rfl)); (case hp => exact (Reps.none _ _)); intro v257 w13 ho14 hb hg_ hnew_; clear hg_ hnew_; (first | rw [← Ny256.out] at ho14 | (simp only [Int.reduceToNat] at ho14; rw [← Ny256.out] at ho14)); have n0_ := Aside0.mk (Kd.S_below (by (with_reducible repeat (first | apply Kd.S_alloc | apply Kd.S_drewN | apply Kd.S_drew)); exact HO252.out) hb); have n1_ := Aside0.mk (Kd.R_below (ra_ HO255.out) hb); have n2_ := Aside0.mk (Kd.R_lower ho14 (below_size (bl1_ HB.out GE248.out))); have n3_ := Aside0.mk (blk_below (g := gb248) (o := .cells #[.int .i64 a0_0, .slice A0_1 l0_1.length c0_1] 29 (0, 0)) (bk_ BK248.out) hb); have n4_ := Aside0.mk (below_step (bl1_ HB.out GE248.out) hb); clear HO252; clear HO255; clear BK248; clear HB; have HO252 := n0_; have HO255 := n1_; have HO258 := n2_; have BK248 := n3_; have HB := n4_; clear n0_ n1_ n2_ n3_ n4_; clear hb ho14))
  go_loopg [10, 11] k (fun kq v10 v11 w' => ∃ (x10_1 : List (S97)) (x11_1 : Int), v11 = .int .i64 x11_1 ∧ Aside0 (spec_ActivePairs.l0 kq l2 t250 t253 x10_1 x11_1 = some (r1, r2)) ∧ Aside0 (kq ≤ k) ∧ Aside0 (Kd.S (Kd.slice 2 (Kd.int .i64)) 36 w' w.heap.size (fun k_ => some k_ ≠ (v254 : Value).ownBlock) v251 t250) ∧ Aside0 (Kd.R (Kd.int .i64) 2 w' w.heap.size (fun _ => True) v254 t253) ∧ Aside0 (Kd.R k97 97 w' w.heap.size (fun _ => True) v10 x10_1) ∧ Aside0 (w'.heap[gb248]? = some (.cells #[.int .i64 a0_0, (.slice A0_1 l0_1.length c0_1)] 29 (0, 0))) ∧ Aside0 (Below w.heap.size w w'))
  case atStart => exact ⟨(y256), (0), rs_, H', ⟨Nat.le_refl _⟩, ⟨by (with_reducible repeat (first | apply Kd.S_alloc | apply Kd.S_drewN | apply Kd.S_drew)); exact Kd.S_mono HO252.out (fun _ hk => hk.2)⟩, ⟨ra_ HO255.out⟩, ⟨ra_ HO258.out⟩, ⟨bk_ BK248.out⟩, ⟨bl1_ HB.out GE248.out⟩⟩
  case round =>
   clear H'
   try clear c2
   try clear p2
   try clear c3
   try clear c4
   try clear c5
   try clear c6
   try clear c7
   try clear hcz9_0
   try clear hcz9_1
   try clear hfz9_0
   try clear hfz9_1
   obtain ⟨x10_1, x11_1, rfl, HA, HK1, HO_8, HO_9, HO_10, BK248, HB⟩ := hrel
   cases gk with
   | zero => exact absurd HA.out (by simp [spec_ActivePairs.l0])
   | succ k1 =>
    have H := HA.out
    clear HA
    simp only [spec_ActivePairs.l0] at H
    by_cases c15 : x11_1 < (t253.length : Int)
    ·rw [if_pos c15] at H
     have c15b0 := decide_eq_true c15
     clear c15
     have H' := Aside0.mk H
     clear H
     obtain ⟨Ao16, co16, eo16⟩ := Kd.R_slice HO_9.out
     subst eo16
     go_wp2
     go_loopg [10, 12] k1 (fun kq v10 v12 w' => ∃ (x10_2 : List (S97)) (x12_2 : Int), v12 = .int .i64 x12_2 ∧ Aside0 (spec_ActivePairs.l1 kq l2 t250 t253 x10_2 x11_1 x12_2 = some (r1, r2)) ∧ Aside0 (kq ≤ k1) ∧ Aside0 (Kd.S (Kd.slice 2 (Kd.int .i64)) 36 w' w.heap.size (fun k_ => some k_ ≠ ((.slice Ao16 t253.length co16) : Value).ownBlock) v251 t250) ∧ Aside0 (Kd.R (Kd.int .i64) 2 w' w.heap.size (fun _ => True) (.slice Ao16 t253.length co16) t253) ∧ Aside0 (Kd.R k97 97 w' w.heap.size (fun _ => True) v10 x10_2) ∧ Aside0 (w'.heap[gb248]? = some (.cells #[.int .i64 a0_0, (.slice A0_1 l0_1.length c0_1)] 29 (0, 0))) ∧ Aside0 (Below w.heap.size w w'))
     case atStart => exact ⟨(x10_1), (wrap64 (x11_1 + 1)), rs_, H', ⟨Nat.le_refl _⟩, ⟨by (with_reducible repeat (first | apply Kd.S_alloc | apply Kd.S_drewN | apply Kd.S_drew)); exact HO_8.out⟩, ⟨ra_ HO_9.out⟩, ⟨ra_ HO_10.out⟩, ⟨bk_ BK248.out⟩, ⟨bl1_ HB.out GE248.out⟩⟩
     case round =>
      clear H'
      try clear c1
      try clear c2
      try clear p2
      try clear c3
      try clear c4
      try clear c5
      try clear c6
      try clear p6
      try clear c7
      try clear c15
      try clear c15b0
      try clear hcz9_0
      try clear hcz9_1
      try clear hfz9_0
      try clear hfz9_1
      try clear p2
      obtain ⟨x10_2, x12_2, rfl, HA, HK2, HO_8, HO_9, HO_10, BK248, HB⟩ := hrel
      cases gk with
      | zero => exact absurd HA.out (by simp [spec_ActivePairs.l1])
      | succ k2 =>
       have H := HA.out
       clear HA
       simp only [spec_ActivePairs.l1] at H
       by_cases c17 : x12_2 < (t253.length : Int)
       ·rw [if_pos c17] at H
        have c17b0 := decide_eq_true c17
        clear c17
        by_cases c18 : 0 ≤ x11_1
        rotate_left
        ·exact nope_ c18 H
        rw [if_pos c18] at H
        have c18b0 := decide_eq_true c18
        clear c18
        by_cases c19 : x11_1 < (l2.length : Int)
        rotate_left
        ·exact nope_ c19 H
        rw [if_pos c19] at H
        have c19b0 := decide_eq_true c19
        clear c19
        by_cases c20 : 0 ≤ x12_2
        rotate_left
        ·exact nope_ c20 H
        rw [if_pos c20] at H
        have c20b0 := decide_eq_true c20
        clear c20
        by_cases c21 : x12_2 < (l2.length : Int)
        rotate_left
        ·exact nope_ c21 H
        rw [if_pos c21] at H
        have c21b0 := decide_eq_true c21
        clear c21
        replace H := Option.bind_eq_some_iff.mp H
        obtain ⟨t261, A220, H⟩ := H
        replace H : (if x11_1 < (t250.length : Int) then (if x12_2 < ((rd_L5 t250 x11_1).length : Int) then (if t261 = (wrap64 ((rd (rd_L5 t250 x11_1) x12_2) * (rd (rd_L5 t250 x11_1) x12_2))) then (if x11_1 < (t253.length : Int) then (if x10_2.length < 8796093022208 then (spec_ActivePairs.l1 k2 l2 t250 t253 (x10_2 ++ [(⟨rd t253 x11_1, rd t253 x12_2⟩ : S97)]) x11_1 (wrap64 (x12_2 + 1))) else (none)) else (none)) else (spec_ActivePairs.l1 k2 l2 t250 t253 x10_2 x11_1 (wrap64 (x12_2 + 1)))) else (none)) else (none)) = some (r1, r2) := H
        have A22 := Aside0.mk A220
        clear A220
        by_cases c23 : x11_1 < (t250.length : Int)
        rotate_left
        ·exact nope_ c23 H
        rw [if_pos c23] at H
        have c23b0 := decide_eq_true c23
        clear c23
        by_cases c24 : x12_2 < ((rd_L5 t250 x11_1).length : Int)
        rotate_left
        ·exact nope_ c24 H
        rw [if_pos c24] at H
        have c24b0 := decide_eq_true c24
        clear c24
        by_cases c25 : t261 = (wrap64 ((rd (rd_L5 t250 x11_1) x12_2) * (rd (rd_L5 t250 x11_1) x12_2)))
        ·rw [if_pos c25] at H
         have c25b0 : (t261 == (wrap64 ((rd (rd_L5 t250 x11_1) x12_2) * (rd (rd_L5 t250 x11_1) x12_2)))) = true := beq_iff_eq.mpr c25
         have c25b1 : (t261 != (wrap64 ((rd (rd_L5 t250 x11_1) x12_2) * (rd (rd_L5 t250 x11_1) x12_2)))) = false := bne_eq_false_iff_eq.mpr c25
         clear c25
         by_cases c26 : x11_1 < (t253.length : Int)
         rotate_left
         ·exact nope_ c26 H
         rw [if_pos c26] at H
         have c26b0 := decide_eq_true c26
         clear c26
         by_cases c27 : x10_2.length < 8796093022208
         rotate_left
         ·exact nope_ c27 H
         rw [if_pos c27] at H
         have LMc27 := Aside0.mk c27
         clear c27
         obtain ⟨y268, hy268⟩ : ∃ y_ : List (S97), y_ = (x10_2 ++ [(⟨rd t253 x11_1, rd t253 x12_2⟩ : S97)]) := ⟨_, rfl⟩
         replace H : (spec_ActivePairs.l1 k2 l2 t250 t253 y268 x11_1 (wrap64 (x12_2 + 1))) = some (r1, r2) := yh_ H hy268
         have Ny268 := Aside0.mk hy268
         clear hy268
         have H' := Aside0.mk H
         clear H
         try go_wp2
         have n0_ := Aside0.mk (Kd.S_drew HO_8.out)
         have n1_ := Aside0.mk (Kd.R_drew HO_9.out)
         have n2_ := Aside0.mk (Kd.R_drew HO_10.out)
         have n3_ := Aside0.mk (blk_drew BK248.out)
         have n4_ := Aside0.mk (below_drew1 HB.out)
         clear HO_8
         clear HO_9
         clear HO_10
         clear BK248
         clear HB
         have HO_8 := n0_
         have HO_9 := n1_
         have HO_10 := n2_
         have BK248 := n3_
         have HB := n4_
         clear n0_ n1_ n2_ n3_ n4_
         have p259 : 0 ≤ (x11_1 : Int) := od_
         have q259 : x11_1 < (l2.length : Int) := od_
         obtain ⟨ad259, e259, hx259_0, hx259_1⟩ := at_T68 HR2.out x11_1 p259 q259
         have hw259_1 := hx259_1
         have hw259_0 := hx259_0
         cases e259
         replace hx259_0 := (HB.out.cell (World.block_lt_of_cell? w _ hx259_0)).trans hx259_0
         replace hx259_1 := (HB.out.cell (World.block_lt_of_cell? w _ hx259_1)).trans hx259_1
         replace p259 := eq_true p259
         replace q259 := eq_true q259
         have p260 : 0 ≤ (x12_2 : Int) := od_
         have q260 : x12_2 < (l2.length : Int) := od_
         obtain ⟨ad260, e260, hx260_0, hx260_1⟩ := at_T68 HR2.out x12_2 p260 q260
         have hw260_1 := hx260_1
         have hw260_0 := hx260_0
         obtain rfl : ad259 = ad260 := (by injection e260)
         replace hx260_0 := (HB.out.cell (World.block_lt_of_cell? w _ hx260_0)).trans hx260_0
         replace hx260_1 := (HB.out.cell (World.block_lt_of_cell? w _ hx260_1)).trans hx260_1
         replace p260 := eq_true p260
         replace q260 := eq_true q260
         obtain ⟨Ao29, co29, eo29⟩ := Kd.S_slice HO_8.out
         (first | subst eo29 | (injection eo29 with f1_ f2_ f3_; have f4_ := f1_.symm; have f5_ := f3_.symm; clear f1_ f2_ f3_; subst f4_; subst f5_))
         have p262 : 0 ≤ (x11_1 : Int) := od_
         have q262 : x11_1 < (t250.length : Int) := od_
         obtain ⟨ad262, A262_0, c262_0, e262, hx262_0, hl262_0, hi262_0⟩ := at_L5 (Kd.S_reads' HO_8.out).2.2 x11_1 p262 q262
         cases e262
         obtain ⟨ce262, hce262, hMe262, hcc262⟩ := Kd.S_get HO_8.out [] x11_1 p262 (by first | exact q262 | exact od_ | (have e_ := (Kd.S_reads' HO_8.out).1; omega))
         obtain ⟨ve262_0, rfl, ge262_0⟩ := hMe262
         have hv262_0 := hcc262 0 _ rfl
         rw [Nat.add_zero, show ((Kd.slice 2 (Kd.int .i64))).sz = 1 from rfl, Nat.mul_one] at hv262_0
         replace hv262_0 := Option.some.inj (hv262_0.symm.trans hx262_0)
         rw [hv262_0] at ge262_0
         have HL262_0 := Aside0.mk (show Kd.R (Kd.int .i64) 2 _ _ _ _ (rd_L5 t250 x11_1) from ge262_0)
         clear hv262_0 ge262_0
         clear hcc262 hce262
         have HR262_0 := Aside0.mk hi262_0
         have HC262_0 := Aside0.mk hl262_0
         clear hi262_0 hl262_0
         replace p262 := eq_true p262
         replace q262 := eq_true q262
         have p263 : 0 ≤ (x12_2 : Int) := od_
         have q263 : x12_2 < ((rd_L5 t250 x11_1).length : Int) := od_
         obtain ⟨ad263, e263, hx263_0⟩ := Kd.at_int (by repeat (first | (with_reducible exact HR262_0.out) | (with_reducible refine Kd.C_alloc ?_ _) | (with_reducible refine Kd.C_drewN ?_ _) | (with_reducible refine Kd.C_drew ?_) | exact HR262_0.out)) x12_2 p263 q263
         cases e263
         replace p263 := eq_true p263
         replace q263 := eq_true q263
         have p264 : 0 ≤ (x11_1 : Int) := od_
         have q264 : x11_1 < (t250.length : Int) := od_
         obtain ⟨ad264, A264_0, c264_0, e264, hx264_0, hl264_0, hi264_0⟩ := at_L5 (Kd.S_reads' HO_8.out).2.2 x11_1 p264 q264
         obtain rfl : ad262 = ad264 := (by injection e264)
         obtain ⟨ce264, hce264, hMe264, hcc264⟩ := Kd.S_get HO_8.out [] x11_1 p264 (by first | exact q264 | exact od_ | (have e_ := (Kd.S_reads' HO_8.out).1; omega))
         obtain ⟨ve264_0, rfl, ge264_0⟩ := hMe264
         have hv264_0 := hcc264 0 _ rfl
         rw [Nat.add_zero, show ((Kd.slice 2 (Kd.int .i64))).sz = 1 from rfl, Nat.mul_one] at hv264_0
         replace hv264_0 := Option.some.inj (hv264_0.symm.trans hx264_0)
         rw [hv264_0] at ge264_0
         have HL264_0 := Aside0.mk (show Kd.R (Kd.int .i64) 2 _ _ _ _ (rd_L5 t250 x11_1) from ge264_0)
         clear hv264_0 ge264_0
         clear hcc264 hce264
         have HR264_0 := Aside0.mk hi264_0
         have HC264_0 := Aside0.mk hl264_0
         clear hi264_0 hl264_0
         replace p264 := eq_true p264
         replace q264 := eq_true q264
         have ea_ := Option.some.inj (hx262_0.symm.trans hx264_0)
         injection ea_ with ea_ en_ ec_
         subst ea_
         subst ec_
         clear en_
         have p265 : 0 ≤ (x12_2 : Int) := od_
         have q265 : x12_2 < ((rd_L5 t250 x11_1).length : Int) := od_
         obtain ⟨ad263, e265, hx265_0⟩ := Kd.at_int (by repeat (first | (with_reducible exact HR264_0.out) | (with_reducible refine Kd.C_alloc ?_ _) | (with_reducible refine Kd.C_drewN ?_ _) | (with_reducible refine Kd.C_drew ?_) | exact HR264_0.out)) x12_2 p265 q265
         cases e265
         replace p265 := eq_true p265
         replace q265 := eq_true q265
         refine start_ (n := 25) (S := fun w' => w'.cell? (ad259.add ((x11_1).toNat * 2)) = some (.int .i64 ((rd_T68 l2 x11_1).f0)) ∧ w'.cell? ⟨(ad259.add ((x11_1).toNat * 2)).block, (ad259.add ((x11_1).toNat * 2)).off + 1, none⟩ = some (.int .i64 ((rd_T68 l2 x11_1).f1)) ∧ w'.cell? (ad259.add ((x12_2).toNat * 2)) = some (.int .i64 ((rd_T68 l2 x12_2).f0)) ∧ w'.cell? ⟨(ad259.add ((x12_2).toNat * 2)).block, (ad259.add ((x12_2).toNat * 2)).off + 1, none⟩ = some (.int .i64 ((rd_T68 l2 x12_2).f1)) ∧ w'.cell? (ad262.add (x11_1).toNat) = some (.slice (some ad263) (rd_L5 t250 x11_1).length c262_0) ∧ w'.cell? (ad263.add (x12_2).toNat) = some (.int .i64 (rd (rd_L5 t250 x11_1) x12_2)) ∧ w'.cell? (ad262.add (x11_1).toNat) = some (.slice (some ad263) (rd_L5 t250 x11_1).length c262_0) ∧ w'.cell? (ad263.add (x12_2).toNat) = some (.int .i64 (rd (rd_L5 t250 x11_1) x12_2))) (ds := []) #[false,false,false,false,false,false,false,false,false,false,false,false,false,false,false,false,false,false,false,false,false,false,false,false,false] (by kernel_rfl) rfl rfl ⟨((HB.out.cell (World.block_lt_of_cell? w _ hw259_0)).trans hw259_0), ((HB.out.cell (World.block_lt_of_cell? w _ hw259_1)).trans hw259_1), ((HB.out.cell (World.block_lt_of_cell? w _ hw260_0)).trans hw260_0), ((HB.out.cell (World.block_lt_of_cell? w _ hw260_1)).trans hw260_1), hx262_0, hx263_0, hx264_0, hx265_0⟩ (fun hHeld => ?_); refine with_tabW spec_ActivePairs.tab12 spec_ActivePairs.bits12 (fun HT_ HW_ => ?_)
         generalize wr.drew = w28 at HO_8 HO_9 HO_10 BK248 HB HL262_0 HL264_0 HR262_0 HR264_0 hx259_0 hx259_1 hx260_0 hx260_1 hx262_0 hx263_0 hx264_0 hx265_0 hHeld ⊢
         refine puz_ 0 (some 35) #[true,false,false,false,false,false,false,false,false,false,false,false,false,false,false,false,false,false,false,false,false,false,false,false,false] rfl rfl (any_of HT_.out (by kernel_rfl)) ?_
         refine puz_ 1 (some 36) #[true,true,false,false,false,false,false,false,false,false,false,false,false,false,false,false,false,false,false,false,false,false,false,false,false] rfl rfl (any_of HT_.out (by kernel_rfl)) ?_
         refine puz_ 2 (some 37) #[true,true,true,false,false,false,false,false,false,false,false,false,false,false,false,false,false,false,false,false,false,false,false,false,false] rfl rfl (any_of HT_.out (by kernel_rfl)) ?_
         refine puz_ 4 (some 39) #[true,true,true,false,true,false,false,false,false,false,false,false,false,false,false,false,false,false,false,false,false,false,false,false,false] rfl rfl (any_of HT_.out (by kernel_rfl)) ?_
         refine puz_ 5 (some 40) #[true,true,true,false,true,true,false,false,false,false,false,false,false,false,false,false,false,false,false,false,false,false,false,false,false] rfl rfl (any_of HT_.out (by kernel_rfl)) ?_
         refine puz_ 6 (some 41) #[true,true,true,false,true,true,true,false,false,false,false,false,false,false,false,false,false,false,false,false,false,false,false,false,false] rfl rfl (any_of HT_.out (by kernel_rfl)) ?_
         refine puz_ 9 (some 44) #[true,true,true,false,true,true,true,false,false,true,false,false,false,false,false,false,false,false,false,false,false,false,false,false,false] rfl rfl (any_of HT_.out (by kernel_rfl)) ?_
         refine puz_ 10 (some 45) #[true,true,true,false,true,true,true,false,false,true,true,false,false,false,false,false,false,false,false,false,false,false,false,false,false] rfl rfl (any_of HT_.out (by kernel_rfl)) ?_
         refine puz_ 11 (some 46) #[true,true,true,false,true,true,true,false,false,true,true,true,false,false,false,false,false,false,false,false,false,false,false,false,false] rfl rfl (any_of HT_.out (by kernel_rfl)) ?_
         refine puz_ 13 (some 48) #[true,true,true,false,true,true,true,false,false,true,true,true,false,true,false,false,false,false,false,false,false,false,false,false,false] rfl rfl (any_of HT_.out (by kernel_rfl)) ?_
         refine puz_ 16 (some 51) #[true,true,true,false,true,true,true,false,false,true,true,true,false,true,false,false,true,false,false,false,false,false,false,false,false] rfl rfl (any_of HT_.out (by kernel_rfl)) ?_
         refine puz_ 17 (some 52) #[true,true,true,false,true,true,true,false,false,true,true,true,false,true,false,false,true,true,false,false,false,false,false,false,false] rfl rfl (any_of HT_.out (by kernel_rfl)) ?_
         refine puz_ 18 (some 53) #[true,true,true,false,true,true,true,false,false,true,true,true,false,true,false,false,true,true,true,false,false,false,false,false,false] rfl rfl (any_of HT_.out (by kernel_rfl)) ?_
         refine puz_ 20 (some 55) #[true,true,true,false,true,true,true,false,false,true,true,true,false,true,false,false,true,true,true,false,true,false,false,false,false] rfl rfl (any_of HT_.out (by kernel_rfl)) ?_
         refine tkz_ 3 (some 38) #[true,true,true,true,true,true,true,false,false,true,true,true,false,true,false,false,true,true,true,false,true,false,false,false,false] rfl rfl (take_ofW HT_.out HW_.out (by kernel_rfl)) hHeld ?_
         refine tkz_ 7 (some 42) #[true,true,true,true,true,true,true,true,false,true,true,true,false,true,false,false,true,true,true,false,true,false,false,false,false] rfl rfl (take_ofW HT_.out HW_.out (by kernel_rfl)) hHeld ?_
         refine tkz_ 12 (some 47) #[true,true,true,true,true,true,true,true,false,true,true,true,true,true,false,false,true,true,true,false,true,false,false,false,false] rfl rfl (take_ofW HT_.out HW_.out (by kernel_rfl)) hHeld ?_
         refine puz_ 14 (some 49) #[true,true,true,true,true,true,true,true,false,true,true,true,true,true,true,false,true,true,true,false,true,false,false,false,false] rfl rfl (any_of HT_.out (by kernel_rfl)) ?_
         refine tkz_ 15 (some 50) #[true,true,true,true,true,true,true,true,false,true,true,true,true,true,true,true,true,true,true,false,true,false,false,false,false] rfl rfl (take_ofW HT_.out HW_.out (by kernel_rfl)) hHeld ?_
         refine tkz_ 19 (some 54) #[true,true,true,true,true,true,true,true,false,true,true,true,true,true,true,true,true,true,true,true,true,false,false,false,false] rfl rfl (take_ofW HT_.out HW_.out (by kernel_rfl)) hHeld ?_
         refine puz_ 21 (some 56) #[true,true,true,true,true,true,true,true,false,true,true,true,true,true,true,true,true,true,true,true,true,true,false,false,false] rfl rfl (any_of HT_.out (by kernel_rfl)) ?_
         refine tkz_ 22 (some 57) #[true,true,true,true,true,true,true,true,false,true,true,true,true,true,true,true,true,true,true,true,true,true,true,false,false] rfl rfl (take_ofW HT_.out HW_.out (by kernel_rfl)) hHeld ?_
         refine puz_ 23 (some 58) #[true,true,true,true,true,true,true,true,false,true,true,true,true,true,true,true,true,true,true,true,true,true,true,true,false] rfl rfl (any_of HT_.out (by kernel_rfl)) ?_
         refine one_ (i := 8) (N := some 43) #[true,true,true,true,true,true,true,true,true,true,true,true,true,true,true,true,true,true,true,true,true,true,true,true,false] rfl rfl (one_of HT_.out (by kernel_rfl)) (by decide) (fun K hK => ?_)
         refine goes_ Try.func81 (by kernel_rfl) rfl #[.agg #[.int .i64 ((rd_T68 l2 x11_1).f0), .int .i64 ((rd_T68 l2 x11_1).f1)], .agg #[.int .i64 ((rd_T68 l2 x12_2).f0), .int .i64 ((rd_T68 l2 x12_2).f1)]] (by rfl) rfl rfl mp_ ?_
         with_reducible refine (spec_l30Square.calls ((rd_T68 l2 x11_1).f0) ((rd_T68 l2 x11_1).f1) ((rd_T68 l2 x12_2).f0) ((rd_T68 l2 x12_2).f1) t261 _ A22.out).mono ?_
         rintro e w30 ⟨rfl, hb⟩
         have HS4_ := (hb.cell (World.block_lt_of_cell? _ _ (hHeld.2.2.2.2.1))).trans (hHeld.2.2.2.2.1)
         have HS5_ := (hb.cell (World.block_lt_of_cell? _ _ (hHeld.2.2.2.2.2.1))).trans (hHeld.2.2.2.2.2.1)
         have HS6_ := (hb.cell (World.block_lt_of_cell? _ _ (hHeld.2.2.2.2.2.2.1))).trans (hHeld.2.2.2.2.2.2.1)
         have HS7_ := (hb.cell (World.block_lt_of_cell? _ _ (hHeld.2.2.2.2.2.2.2))).trans (hHeld.2.2.2.2.2.2.2)
         refine ⟨_, rfl, ?_⟩
         have n0_ := Aside0.mk (Kd.S_below (by (with_reducible repeat (first | apply Kd.S_alloc | apply Kd.S_drewN | apply Kd.S_drew)); exact HO_8.out) hb)
         have n1_ := Aside0.mk (Kd.R_below (ra_ HO_9.out) hb)
         have n2_ := Aside0.mk (Kd.R_below (ra_ HO_10.out) hb)
         have n3_ := Aside0.mk (Kd.R_below (by (with_reducible repeat (first | apply Kd.R_alloc | apply Kd.R_drewN | apply Kd.R_drew)); exact HL262_0.out) hb)
         have n4_ := Aside0.mk (Kd.R_below (by (with_reducible repeat (first | apply Kd.R_alloc | apply Kd.R_drewN | apply Kd.R_drew)); exact HL264_0.out) hb)
         have n5_ := Aside0.mk (blk_below (g := gb248) (o := .cells #[.int .i64 a0_0, .slice A0_1 l0_1.length c0_1] 29 (0, 0)) (bk_ BK248.out) hb)
         have n6_ := Aside0.mk (Kd.C_below (by repeat (first | (with_reducible exact HR262_0.out) | (with_reducible refine Kd.C_alloc ?_ _) | (with_reducible refine Kd.C_drewN ?_ _) | (with_reducible refine Kd.C_drew ?_) | exact HR262_0.out)) hb)
         have n7_ := Aside0.mk (Kd.C_below (by repeat (first | (with_reducible exact HR264_0.out) | (with_reducible refine Kd.C_alloc ?_ _) | (with_reducible refine Kd.C_drewN ?_ _) | (with_reducible refine Kd.C_drew ?_) | exact HR264_0.out)) hb)
         have n8_ := Aside0.mk (below_step (bl1_ HB.out GE248.out) hb)
         clear HO_8
         clear HO_9
         clear HO_10
         clear HL262_0
         clear HL264_0
         clear BK248
         clear HR262_0
         clear HR264_0
         clear HB
         have HO_8 := n0_
         have HO_9 := n1_
         have HO_10 := n2_
         have HL262_0 := n3_
         have HL264_0 := n4_
         have BK248 := n5_
         have HR262_0 := n6_
         have HR264_0 := n7_
         have HB := n8_
         clear n0_ n1_ n2_ n3_ n4_ n5_ n6_ n7_ n8_
         (try clear hb)
         (try clear hb2)
         (try clear hk)
         (try clear hi)
         refine hK.out _ _ ⟨((HB.out.cell (World.block_lt_of_cell? w _ hw259_0)).trans hw259_0), ((HB.out.cell (World.block_lt_of_cell? w _ hw259_1)).trans hw259_1), ((HB.out.cell (World.block_lt_of_cell? w _ hw260_0)).trans hw260_0), ((HB.out.cell (World.block_lt_of_cell? w _ hw260_1)).trans hw260_1), HS4_, HS5_, HS6_, HS7_⟩ (fun hHeld => ?_)
         clear hK K
         refine norm_ (a' := ?_) ?_ ?_
         rotate_left
         ·show Act.put _ (some 43) _ = _
          simp only [Act.put, List.setIfInBounds_toArray, List.set_cons_zero, List.set_cons_succ, i64_w, i32_w]
          rfl
         refine puz_ 24 (some 59) #[true,true,true,true,true,true,true,true,true,true,true,true,true,true,true,true,true,true,true,true,true,true,true,true,true] rfl rfl (any_of HT_.out (by kernel_rfl)) ?_
         refine done_ (done_of HT_.out (by kernel_rfl)) ?_
         try go_wp2
         have n0_ := Aside0.mk (Kd.S_drew HO_8.out)
         have n1_ := Aside0.mk (Kd.R_drew HO_9.out)
         have n2_ := Aside0.mk (Kd.R_drew HO_10.out)
         have n3_ := Aside0.mk (Kd.R_drew HL262_0.out)
         have n4_ := Aside0.mk (Kd.R_drew HL264_0.out)
         have n5_ := Aside0.mk (blk_drew BK248.out)
         have n6_ := Aside0.mk (Kd.C_drew HR262_0.out)
         have n7_ := Aside0.mk (Kd.C_drew HR264_0.out)
         have n8_ := Aside0.mk (below_drew1 HB.out)
         clear HO_8
         clear HO_9
         clear HO_10
         clear HL262_0
         clear HL264_0
         clear BK248
         clear HR262_0
         clear HR264_0
         clear HB
         have HO_8 := n0_
         have HO_9 := n1_
         have HO_10 := n2_
         have HL262_0 := n3_
         have HL264_0 := n4_
         have BK248 := n5_
         have HR262_0 := n6_
         have HR264_0 := n7_
         have HB := n8_
         clear n0_ n1_ n2_ n3_ n4_ n5_ n6_ n7_ n8_
         have p266 : 0 ≤ (x11_1 : Int) := od_
         have q266 : x11_1 < (t253.length : Int) := od_
         obtain ⟨ad266, e266, hx266_0⟩ := Kd.at_int (Kd.R_reads' HO_9.out).2.2 x11_1 p266 q266
         cases e266
         replace p266 := eq_true p266
         replace q266 := eq_true q266
         have p267 : 0 ≤ (x12_2 : Int) := od_
         have q267 : x12_2 < (t253.length : Int) := od_
         obtain ⟨ad267, e267, hx267_0⟩ := Kd.at_int (Kd.R_reads' HO_9.out).2.2 x12_2 p267 q267
         obtain rfl : ad266 = ad267 := (by injection e267)
         replace p267 := eq_true p267
         replace q267 := eq_true q267
         refine start_ (n := 13) (S := fun w' => w'.cell? (ad266.add (x11_1).toNat) = some (.int .i64 (rd t253 x11_1)) ∧ w'.cell? (ad266.add (x12_2).toNat) = some (.int .i64 (rd t253 x12_2))) (ds := [10, 11]) #[false,false,false,false,false,false,false,false,false,false,false,false,false] (by kernel_rfl) rfl rfl ⟨hx266_0, hx267_0⟩ (fun hHeld => ?_); refine with_tabW spec_ActivePairs.tab13 spec_ActivePairs.bits13 (fun HT_ HW_ => ?_)
         generalize w30.drew = w31 at HO_8 HO_9 HO_10 HL262_0 HL264_0 BK248 HR262_0 HR264_0 HB hx266_0 hx267_0 hHeld ⊢
         refine puz_ 0 (some 60) #[true,false,false,false,false,false,false,false,false,false,false,false,false] rfl rfl (any_of HT_.out (by kernel_rfl)) ?_
         refine puz_ 1 (some 61) #[true,true,false,false,false,false,false,false,false,false,false,false,false] rfl rfl (any_of HT_.out (by kernel_rfl)) ?_
         refine puz_ 2 (some 62) #[true,true,true,false,false,false,false,false,false,false,false,false,false] rfl rfl (any_of HT_.out (by kernel_rfl)) ?_
         refine puz_ 3 (some 63) #[true,true,true,true,false,false,false,false,false,false,false,false,false] rfl rfl (any_of HT_.out (by kernel_rfl)) ?_
         refine puz_ 5 (some 65) #[true,true,true,true,false,true,false,false,false,false,false,false,false] rfl rfl (any_of HT_.out (by kernel_rfl)) ?_
         refine puz_ 6 (some 66) #[true,true,true,true,false,true,true,false,false,false,false,false,false] rfl rfl (any_of HT_.out (by kernel_rfl)) ?_
         refine puz_ 7 (some 67) #[true,true,true,true,false,true,true,true,false,false,false,false,false] rfl rfl (any_of HT_.out (by kernel_rfl)) ?_
         refine tkz_ 4 (some 64) #[true,true,true,true,true,true,true,true,false,false,false,false,false] rfl rfl (take_ofW HT_.out HW_.out (by kernel_rfl)) hHeld ?_
         refine tkz_ 8 (some 68) #[true,true,true,true,true,true,true,true,true,false,false,false,false] rfl rfl (take_ofW HT_.out HW_.out (by kernel_rfl)) hHeld ?_
         refine puz_ 9 (some 69) #[true,true,true,true,true,true,true,true,true,true,false,false,false] rfl rfl (any_of HT_.out (by kernel_rfl)) ?_
         refine last_ (i := 10) (N := some 70) #[true,true,true,true,true,true,true,true,true,true,true,false,false] rfl rfl (one_of HT_.out (by kernel_rfl)) (by decide) (fun K hK => ?_)
         refine value_ (w1 := ?_) (v := ?_) (by rfl) rfl ?_ ?_
         rotate_left 2
         ·go_simp
          constructor
          ·rfl
          ·rfl
         refine hK.out _ _ ?_
         clear hK K
         refine norm_ (a' := ?_) ?_ ?_
         rotate_left
         ·show Act.put _ (some 70) _ = _
          simp only [Act.put, List.setIfInBounds_toArray, List.set_cons_zero, List.set_cons_succ, i64_w, i32_w]
          rfl
         refine last_ (i := 11) (N := some 71) #[true,true,true,true,true,true,true,true,true,true,true,true,false] rfl rfl (one_of HT_.out (by kernel_rfl)) (by decide) (fun K hK => ?_)
         refine Kd.R_append_step k97 (w0 := w) w.heap.size (by rfl) (.tmp 60) (.tmp 70) 58 97 (.agg #[(.int .i64 0), (.int .i64 0)]) 16 rfl Try.underlying58 info97 rfl (by decide) (by omega) u10 x10_2 (⟨rd t253 x11_1, rd t253 x12_2⟩ : S97) [.int .i64 (rd t253 x11_1), .int .i64 (rd t253 x12_2)] (fun _ => True) (fun _ => False) rfl rfl ?aP (fun _ hk => hk.elim) ?aF ?aO ?aB ?aS ?aL ?_
         (case aP => exact k97_mkM _ _ _ (⟨rd t253 x11_1, rd t253 x12_2⟩ : S97))
         (case aB => exact (bl1_ HB.out GE248.out))
         (case aF => exact (fun _ _ => trivial))
         (case aO => exact (ra_ HO_10.out))
         (case aS => exact (below_size (bl1_ HB.out GE248.out)))
         (case aL => have := LMc27.out; omega)
         intro v269 w32 ho hb hg hat
         rw [← Ny268.out] at ho
         have n0_ := Aside0.mk (Kd.S_over' (by (with_reducible repeat (first | apply Kd.S_alloc | apply Kd.S_drewN | apply Kd.S_drew)); exact HO_8.out) (Kd.R_typed (ra_ HO_10.out)) (by decide) hg)
         have n1_ := Aside0.mk (Kd.R_over' (ra_ HO_9.out) (Kd.R_typed (ra_ HO_10.out)) (by decide) hg)
         have n2_ := Aside0.mk (blk_grown (g := gb248) (o := .cells #[.int .i64 a0_0, .slice A0_1 l0_1.length c0_1] 29 (0, 0)) (bk_ BK248.out) hg (Kd.R_ne HO_10.out BK248.out (by decide)))
         have n3_ := Aside0.mk (Kd.R_over' (by (with_reducible repeat (first | apply Kd.R_alloc | apply Kd.R_drewN | apply Kd.R_drew)); exact HL262_0.out) (Kd.R_typed (ra_ HO_10.out)) (by decide) hg)
         have n4_ := Aside0.mk (Kd.R_over' (by (with_reducible repeat (first | apply Kd.R_alloc | apply Kd.R_drewN | apply Kd.R_drew)); exact HL264_0.out) (Kd.R_typed (ra_ HO_10.out)) (by decide) hg)
         have n5_ := Aside0.mk (hb)
         have n6_ := Aside0.mk (ho)
         clear HO_8
         clear HO_9
         clear BK248
         clear HL262_0
         clear HL264_0
         clear HB
         clear HO_10
         have HO_8 := n0_
         have HO_9 := n1_
         have BK248 := n2_
         have HL262_0 := n3_
         have HL264_0 := n4_
         have HB := n5_
         have HO270 := n6_
         clear n0_ n1_ n2_ n3_ n4_ n5_ n6_
         clear ho hb hg hat
         refine hK.out _ _ ?_
         clear hK K
         refine norm_ (a' := ?_) ?_ ?_
         rotate_left
         ·show Act.put _ (some 71) _ = _
          simp only [Act.put, List.setIfInBounds_toArray, List.set_cons_zero, List.set_cons_succ, i64_w, i32_w]
          rfl
         refine puz_ 12 (some 10) #[true,true,true,true,true,true,true,true,true,true,true,true,true] rfl rfl (any_of HT_.out (by kernel_rfl)) ?_
         refine done_ (done_of HT_.out (by kernel_rfl)) ?_
         try go_wp2
         go_roundg k2
         case measure => have := HK1.out; have := HK2.out; omega
         case rel => exact ⟨(y268), (wrap64 (x12_2 + 1)), rs_, H', ⟨by have := HK1.out; have := HK2.out; omega⟩, ⟨by (with_reducible repeat (first | apply Kd.S_alloc | apply Kd.S_drewN | apply Kd.S_drew)); exact HO_8.out⟩, ⟨ra_ HO_9.out⟩, ⟨ra_ HO270.out⟩, ⟨bk_ BK248.out⟩, ⟨bl1_ HB.out GE248.out⟩⟩
        ·rw [if_neg c25] at H
         have c25b0 : (t261 == (wrap64 ((rd (rd_L5 t250 x11_1) x12_2) * (rd (rd_L5 t250 x11_1) x12_2)))) = false := beq_eq_false_iff_ne.mpr c25
         have c25b1 : (t261 != (wrap64 ((rd (rd_L5 t250 x11_1) x12_2) * (rd (rd_L5 t250 x11_1) x12_2)))) = true := bne_iff_ne.mpr c25
         have H' := Aside0.mk H
         clear H
         try go_wp2
         have n0_ := Aside0.mk (Kd.S_drew HO_8.out)
         have n1_ := Aside0.mk (Kd.R_drew HO_9.out)
         have n2_ := Aside0.mk (Kd.R_drew HO_10.out)
         have n3_ := Aside0.mk (blk_drew BK248.out)
         have n4_ := Aside0.mk (below_drew1 HB.out)
         clear HO_8
         clear HO_9
         clear HO_10
         clear BK248
         clear HB
         have HO_8 := n0_
         have HO_9 := n1_
         have HO_10 := n2_
         have BK248 := n3_
         have HB := n4_
         clear n0_ n1_ n2_ n3_ n4_
         have p259 : 0 ≤ (x11_1 : Int) := od_
         have q259 : x11_1 < (l2.length : Int) := od_
         obtain ⟨ad259, e259, hx259_0, hx259_1⟩ := at_T68 HR2.out x11_1 p259 q259
         have hw259_1 := hx259_1
         have hw259_0 := hx259_0
         cases e259
         replace hx259_0 := (HB.out.cell (World.block_lt_of_cell? w _ hx259_0)).trans hx259_0
         replace hx259_1 := (HB.out.cell (World.block_lt_of_cell? w _ hx259_1)).trans hx259_1
         replace p259 := eq_true p259
         replace q259 := eq_true q259
         have p260 : 0 ≤ (x12_2 : Int) := od_
         have q260 : x12_2 < (l2.length : Int) := od_
         obtain ⟨ad260, e260, hx260_0, hx260_1⟩ := at_T68 HR2.out x12_2 p260 q260
         have hw260_1 := hx260_1
         have hw260_0 := hx260_0
         obtain rfl : ad259 = ad260 := (by injection e260)
         replace hx260_0 := (HB.out.cell (World.block_lt_of_cell? w _ hx260_0)).trans hx260_0
         replace hx260_1 := (HB.out.cell (World.block_lt_of_cell? w _ hx260_1)).trans hx260_1
         replace p260 := eq_true p260
         replace q260 := eq_true q260
         obtain ⟨Ao34, co34, eo34⟩ := Kd.S_slice HO_8.out
         (first | subst eo34 | (injection eo34 with f1_ f2_ f3_; have f4_ := f1_.symm; have f5_ := f3_.symm; clear f1_ f2_ f3_; subst f4_; subst f5_))
         have p262 : 0 ≤ (x11_1 : Int) := od_
         have q262 : x11_1 < (t250.length : Int) := od_
         obtain ⟨ad262, A262_0, c262_0, e262, hx262_0, hl262_0, hi262_0⟩ := at_L5 (Kd.S_reads' HO_8.out).2.2 x11_1 p262 q262
         cases e262
         obtain ⟨ce262, hce262, hMe262, hcc262⟩ := Kd.S_get HO_8.out [] x11_1 p262 (by first | exact q262 | exact od_ | (have e_ := (Kd.S_reads' HO_8.out).1; omega))
         obtain ⟨ve262_0, rfl, ge262_0⟩ := hMe262
         have hv262_0 := hcc262 0 _ rfl
         rw [Nat.add_zero, show ((Kd.slice 2 (Kd.int .i64))).sz = 1 from rfl, Nat.mul_one] at hv262_0
         replace hv262_0 := Option.some.inj (hv262_0.symm.trans hx262_0)
         rw [hv262_0] at ge262_0
         have HL262_0 := Aside0.mk (show Kd.R (Kd.int .i64) 2 _ _ _ _ (rd_L5 t250 x11_1) from ge262_0)
         clear hv262_0 ge262_0
         clear hcc262 hce262
         have HR262_0 := Aside0.mk hi262_0
         have HC262_0 := Aside0.mk hl262_0
         clear hi262_0 hl262_0
         replace p262 := eq_true p262
         replace q262 := eq_true q262
         have p263 : 0 ≤ (x12_2 : Int) := od_
         have q263 : x12_2 < ((rd_L5 t250 x11_1).length : Int) := od_
         obtain ⟨ad263, e263, hx263_0⟩ := Kd.at_int (by repeat (first | (with_reducible exact HR262_0.out) | (with_reducible refine Kd.C_alloc ?_ _) | (with_reducible refine Kd.C_drewN ?_ _) | (with_reducible refine Kd.C_drew ?_) | exact HR262_0.out)) x12_2 p263 q263
         cases e263
         replace p263 := eq_true p263
         replace q263 := eq_true q263
         have p264 : 0 ≤ (x11_1 : Int) := od_
         have q264 : x11_1 < (t250.length : Int) := od_
         obtain ⟨ad264, A264_0, c264_0, e264, hx264_0, hl264_0, hi264_0⟩ := at_L5 (Kd.S_reads' HO_8.out).2.2 x11_1 p264 q264
         obtain rfl : ad262 = ad264 := (by injection e264)
         obtain ⟨ce264, hce264, hMe264, hcc264⟩ := Kd.S_get HO_8.out [] x11_1 p264 (by first | exact q264 | exact od_ | (have e_ := (Kd.S_reads' HO_8.out).1; omega))
         obtain ⟨ve264_0, rfl, ge264_0⟩ := hMe264
         have hv264_0 := hcc264 0 _ rfl
         rw [Nat.add_zero, show ((Kd.slice 2 (Kd.int .i64))).sz = 1 from rfl, Nat.mul_one] at hv264_0
         replace hv264_0 := Option.some.inj (hv264_0.symm.trans hx264_0)
         rw [hv264_0] at ge264_0
         have HL264_0 := Aside0.mk (show Kd.R (Kd.int .i64) 2 _ _ _ _ (rd_L5 t250 x11_1) from ge264_0)
         clear hv264_0 ge264_0
         clear hcc264 hce264
         have HR264_0 := Aside0.mk hi264_0
         have HC264_0 := Aside0.mk hl264_0
         clear hi264_0 hl264_0
         replace p264 := eq_true p264
         replace q264 := eq_true q264
         have ea_ := Option.some.inj (hx262_0.symm.trans hx264_0)
         injection ea_ with ea_ en_ ec_
         subst ea_
         subst ec_
         clear en_
         have p265 : 0 ≤ (x12_2 : Int) := od_
         have q265 : x12_2 < ((rd_L5 t250 x11_1).length : Int) := od_
         obtain ⟨ad263, e265, hx265_0⟩ := Kd.at_int (by repeat (first | (with_reducible exact HR264_0.out) | (with_reducible refine Kd.C_alloc ?_ _) | (with_reducible refine Kd.C_drewN ?_ _) | (with_reducible refine Kd.C_drew ?_) | exact HR264_0.out)) x12_2 p265 q265
         cases e265
         replace p265 := eq_true p265
         replace q265 := eq_true q265
         refine start_ (n := 25) (S := fun w' => w'.cell? (ad259.add ((x11_1).toNat * 2)) = some (.int .i64 ((rd_T68 l2 x11_1).f0)) ∧ w'.cell? ⟨(ad259.add ((x11_1).toNat * 2)).block, (ad259.add ((x11_1).toNat * 2)).off + 1, none⟩ = some (.int .i64 ((rd_T68 l2 x11_1).f1)) ∧ w'.cell? (ad259.add ((x12_2).toNat * 2)) = some (.int .i64 ((rd_T68 l2 x12_2).f0)) ∧ w'.cell? ⟨(ad259.add ((x12_2).toNat * 2)).block, (ad259.add ((x12_2).toNat * 2)).off + 1, none⟩ = some (.int .i64 ((rd_T68 l2 x12_2).f1)) ∧ w'.cell? (ad262.add (x11_1).toNat) = some (.slice (some ad263) (rd_L5 t250 x11_1).length c262_0) ∧ w'.cell? (ad263.add (x12_2).toNat) = some (.int .i64 (rd (rd_L5 t250 x11_1) x12_2)) ∧ w'.cell? (ad262.add (x11_1).toNat) = some (.slice (some ad263) (rd_L5 t250 x11_1).length c262_0) ∧ w'.cell? (ad263.add (x12_2).toNat) = some (.int .i64 (rd (rd_L5 t250 x11_1) x12_2))) (ds := []) #[false,false,false,false,false,false,false,false,false,false,false,false,false,false,false,false,false,false,false,false,false,false,false,false,false] (by kernel_rfl) rfl rfl ⟨((HB.out.cell (World.block_lt_of_cell? w _ hw259_0)).trans hw259_0), ((HB.out.cell (World.block_lt_of_cell? w _ hw259_1)).trans hw259_1), ((HB.out.cell (World.block_lt_of_cell? w _ hw260_0)).trans hw260_0), ((HB.out.cell (World.block_lt_of_cell? w _ hw260_1)).trans hw260_1), hx262_0, hx263_0, hx264_0, hx265_0⟩ (fun hHeld => ?_); refine with_tabW spec_ActivePairs.tab12 spec_ActivePairs.bits12 (fun HT_ HW_ => ?_)
         generalize wr.drew = w33 at HO_8 HO_9 HO_10 BK248 HB HL262_0 HL264_0 HR262_0 HR264_0 hx259_0 hx259_1 hx260_0 hx260_1 hx262_0 hx263_0 hx264_0 hx265_0 hHeld ⊢
         refine puz_ 0 (some 35) #[true,false,false,false,false,false,false,false,false,false,false,false,false,false,false,false,false,false,false,false,false,false,false,false,false] rfl rfl (any_of HT_.out (by kernel_rfl)) ?_
         refine puz_ 1 (some 36) #[true,true,false,false,false,false,false,false,false,false,false,false,false,false,false,false,false,false,false,false,false,false,false,false,false] rfl rfl (any_of HT_.out (by kernel_rfl)) ?_
         refine puz_ 2 (some 37) #[true,true,true,false,false,false,false,false,false,false,false,false,false,false,false,false,false,false,false,false,false,false,false,false,false] rfl rfl (any_of HT_.out (by kernel_rfl)) ?_
         refine puz_ 4 (some 39) #[true,true,true,false,true,false,false,false,false,false,false,false,false,false,false,false,false,false,false,false,false,false,false,false,false] rfl rfl (any_of HT_.out (by kernel_rfl)) ?_
         refine puz_ 5 (some 40) #[true,true,true,false,true,true,false,false,false,false,false,false,false,false,false,false,false,false,false,false,false,false,false,false,false] rfl rfl (any_of HT_.out (by kernel_rfl)) ?_
         refine puz_ 6 (some 41) #[true,true,true,false,true,true,true,false,false,false,false,false,false,false,false,false,false,false,false,false,false,false,false,false,false] rfl rfl (any_of HT_.out (by kernel_rfl)) ?_
         refine puz_ 9 (some 44) #[true,true,true,false,true,true,true,false,false,true,false,false,false,false,false,false,false,false,false,false,false,false,false,false,false] rfl rfl (any_of HT_.out (by kernel_rfl)) ?_
         refine puz_ 10 (some 45) #[true,true,true,false,true,true,true,false,false,true,true,false,false,false,false,false,false,false,false,false,false,false,false,false,false] rfl rfl (any_of HT_.out (by kernel_rfl)) ?_
         refine puz_ 11 (some 46) #[true,true,true,false,true,true,true,false,false,true,true,true,false,false,false,false,false,false,false,false,false,false,false,false,false] rfl rfl (any_of HT_.out (by kernel_rfl)) ?_
         refine puz_ 13 (some 48) #[true,true,true,false,true,true,true,false,false,true,true,true,false,true,false,false,false,false,false,false,false,false,false,false,false] rfl rfl (any_of HT_.out (by kernel_rfl)) ?_
         refine puz_ 16 (some 51) #[true,true,true,false,true,true,true,false,false,true,true,true,false,true,false,false,true,false,false,false,false,false,false,false,false] rfl rfl (any_of HT_.out (by kernel_rfl)) ?_
         refine puz_ 17 (some 52) #[true,true,true,false,true,true,true,false,false,true,true,true,false,true,false,false,true,true,false,false,false,false,false,false,false] rfl rfl (any_of HT_.out (by kernel_rfl)) ?_
         refine puz_ 18 (some 53) #[true,true,true,false,true,true,true,false,false,true,true,true,false,true,false,false,true,true,true,false,false,false,false,false,false] rfl rfl (any_of HT_.out (by kernel_rfl)) ?_
         refine puz_ 20 (some 55) #[true,true,true,false,true,true,true,false,false,true,true,true,false,true,false,false,true,true,true,false,true,false,false,false,false] rfl rfl (any_of HT_.out (by kernel_rfl)) ?_
         refine tkz_ 3 (some 38) #[true,true,true,true,true,true,true,false,false,true,true,true,false,true,false,false,true,true,true,false,true,false,false,false,false] rfl rfl (take_ofW HT_.out HW_.out (by kernel_rfl)) hHeld ?_
         refine tkz_ 7 (some 42) #[true,true,true,true,true,true,true,true,false,true,true,true,false,true,false,false,true,true,true,false,true,false,false,false,false] rfl rfl (take_ofW HT_.out HW_.out (by kernel_rfl)) hHeld ?_
         refine tkz_ 12 (some 47) #[true,true,true,true,true,true,true,true,false,true,true,true,true,true,false,false,true,true,true,false,true,false,false,false,false] rfl rfl (take_ofW HT_.out HW_.out (by kernel_rfl)) hHeld ?_
         refine puz_ 14 (some 49) #[true,true,true,true,true,true,true,true,false,true,true,true,true,true,true,false,true,true,true,false,true,false,false,false,false] rfl rfl (any_of HT_.out (by kernel_rfl)) ?_
         refine tkz_ 15 (some 50) #[true,true,true,true,true,true,true,true,false,true,true,true,true,true,true,true,true,true,true,false,true,false,false,false,false] rfl rfl (take_ofW HT_.out HW_.out (by kernel_rfl)) hHeld ?_
         refine tkz_ 19 (some 54) #[true,true,true,true,true,true,true,true,false,true,true,true,true,true,true,true,true,true,true,true,true,false,false,false,false] rfl rfl (take_ofW HT_.out HW_.out (by kernel_rfl)) hHeld ?_
         refine puz_ 21 (some 56) #[true,true,true,true,true,true,true,true,false,true,true,true,true,true,true,true,true,true,true,true,true,true,false,false,false] rfl rfl (any_of HT_.out (by kernel_rfl)) ?_
         refine tkz_ 22 (some 57) #[true,true,true,true,true,true,true,true,false,true,true,true,true,true,true,true,true,true,true,true,true,true,true,false,false] rfl rfl (take_ofW HT_.out HW_.out (by kernel_rfl)) hHeld ?_
         refine puz_ 23 (some 58) #[true,true,true,true,true,true,true,true,false,true,true,true,true,true,true,true,true,true,true,true,true,true,true,true,false] rfl rfl (any_of HT_.out (by kernel_rfl)) ?_
         refine one_ (i := 8) (N := some 43) #[true,true,true,true,true,true,true,true,true,true,true,true,true,true,true,true,true,true,true,true,true,true,true,true,false] rfl rfl (one_of HT_.out (by kernel_rfl)) (by decide) (fun K hK => ?_)
         refine goes_ Try.func81 (by kernel_rfl) rfl #[.agg #[.int .i64 ((rd_T68 l2 x11_1).f0), .int .i64 ((rd_T68 l2 x11_1).f1)], .agg #[.int .i64 ((rd_T68 l2 x12_2).f0), .int .i64 ((rd_T68 l2 x12_2).f1)]] (by rfl) rfl rfl mp_ ?_
         with_reducible refine (spec_l30Square.calls ((rd_T68 l2 x11_1).f0) ((rd_T68 l2 x11_1).f1) ((rd_T68 l2 x12_2).f0) ((rd_T68 l2 x12_2).f1) t261 _ A22.out).mono ?_
         rintro e w35 ⟨rfl, hb⟩
         have HS4_ := (hb.cell (World.block_lt_of_cell? _ _ (hHeld.2.2.2.2.1))).trans (hHeld.2.2.2.2.1)
         have HS5_ := (hb.cell (World.block_lt_of_cell? _ _ (hHeld.2.2.2.2.2.1))).trans (hHeld.2.2.2.2.2.1)
         have HS6_ := (hb.cell (World.block_lt_of_cell? _ _ (hHeld.2.2.2.2.2.2.1))).trans (hHeld.2.2.2.2.2.2.1)
         have HS7_ := (hb.cell (World.block_lt_of_cell? _ _ (hHeld.2.2.2.2.2.2.2))).trans (hHeld.2.2.2.2.2.2.2)
         refine ⟨_, rfl, ?_⟩
         have n0_ := Aside0.mk (Kd.S_below (by (with_reducible repeat (first | apply Kd.S_alloc | apply Kd.S_drewN | apply Kd.S_drew)); exact HO_8.out) hb)
         have n1_ := Aside0.mk (Kd.R_below (ra_ HO_9.out) hb)
         have n2_ := Aside0.mk (Kd.R_below (ra_ HO_10.out) hb)
         have n3_ := Aside0.mk (Kd.R_below (by (with_reducible repeat (first | apply Kd.R_alloc | apply Kd.R_drewN | apply Kd.R_drew)); exact HL262_0.out) hb)
         have n4_ := Aside0.mk (Kd.R_below (by (with_reducible repeat (first | apply Kd.R_alloc | apply Kd.R_drewN | apply Kd.R_drew)); exact HL264_0.out) hb)
         have n5_ := Aside0.mk (blk_below (g := gb248) (o := .cells #[.int .i64 a0_0, .slice A0_1 l0_1.length c0_1] 29 (0, 0)) (bk_ BK248.out) hb)
         have n6_ := Aside0.mk (Kd.C_below (by repeat (first | (with_reducible exact HR262_0.out) | (with_reducible refine Kd.C_alloc ?_ _) | (with_reducible refine Kd.C_drewN ?_ _) | (with_reducible refine Kd.C_drew ?_) | exact HR262_0.out)) hb)
         have n7_ := Aside0.mk (Kd.C_below (by repeat (first | (with_reducible exact HR264_0.out) | (with_reducible refine Kd.C_alloc ?_ _) | (with_reducible refine Kd.C_drewN ?_ _) | (with_reducible refine Kd.C_drew ?_) | exact HR264_0.out)) hb)
         have n8_ := Aside0.mk (below_step (bl1_ HB.out GE248.out) hb)
         clear HO_8
         clear HO_9
         clear HO_10
         clear HL262_0
         clear HL264_0
         clear BK248
         clear HR262_0
         clear HR264_0
         clear HB
         have HO_8 := n0_
         have HO_9 := n1_
         have HO_10 := n2_
         have HL262_0 := n3_
         have HL264_0 := n4_
         have BK248 := n5_
         have HR262_0 := n6_
         have HR264_0 := n7_
         have HB := n8_
         clear n0_ n1_ n2_ n3_ n4_ n5_ n6_ n7_ n8_
         (try clear hb)
         (try clear hb2)
         (try clear hk)
         (try clear hi)
         refine hK.out _ _ ⟨((HB.out.cell (World.block_lt_of_cell? w _ hw259_0)).trans hw259_0), ((HB.out.cell (World.block_lt_of_cell? w _ hw259_1)).trans hw259_1), ((HB.out.cell (World.block_lt_of_cell? w _ hw260_0)).trans hw260_0), ((HB.out.cell (World.block_lt_of_cell? w _ hw260_1)).trans hw260_1), HS4_, HS5_, HS6_, HS7_⟩ (fun hHeld => ?_)
         clear hK K
         refine norm_ (a' := ?_) ?_ ?_
         rotate_left
         ·show Act.put _ (some 43) _ = _
          simp only [Act.put, List.setIfInBounds_toArray, List.set_cons_zero, List.set_cons_succ, i64_w, i32_w]
          rfl
         refine puz_ 24 (some 59) #[true,true,true,true,true,true,true,true,true,true,true,true,true,true,true,true,true,true,true,true,true,true,true,true,true] rfl rfl (any_of HT_.out (by kernel_rfl)) ?_
         refine done_ (done_of HT_.out (by kernel_rfl)) ?_
         try go_wp2
         go_roundg k2
         case measure => have := HK1.out; have := HK2.out; omega
         case rel => exact ⟨(x10_2), (wrap64 (x12_2 + 1)), rs_, H', ⟨by have := HK1.out; have := HK2.out; omega⟩, ⟨by (with_reducible repeat (first | apply Kd.S_alloc | apply Kd.S_drewN | apply Kd.S_drew)); exact HO_8.out⟩, ⟨ra_ HO_9.out⟩, ⟨ra_ HO_10.out⟩, ⟨bk_ BK248.out⟩, ⟨bl1_ HB.out GE248.out⟩⟩
       ·rw [if_neg c17] at H
        have c17b0 := decide_eq_false c17
        clear c17
        have H' := Aside0.mk H
        clear H
        go_wp2
        go_roundg k2
        case measure => have := HK1.out; have := HK2.out; omega
        case rel => exact ⟨(x10_2), (wrap64 (x11_1 + 1)), rs_, H', ⟨by have := HK1.out; have := HK2.out; omega⟩, ⟨by (with_reducible repeat (first | apply Kd.S_alloc | apply Kd.S_drewN | apply Kd.S_drew)); exact HO_8.out⟩, ⟨ra_ HO_9.out⟩, ⟨ra_ HO_10.out⟩, ⟨bk_ BK248.out⟩, ⟨bl1_ HB.out GE248.out⟩⟩
    ·rw [if_neg c15] at H
     have c15b0 := decide_eq_false c15
     clear c15
     simp only [Option.some.injEq, Prod.mk.injEq] at H
     obtain ⟨rfl, rfl⟩ := H
     obtain ⟨Ao36, co36, eo36⟩ := Kd.R_slice HO_9.out
     subst eo36
     go_wp2
     go_ret2
     exact ⟨_, re_, ra_ HO_10.out, bl1_ HB.out GE248.out⟩
 ·replace c5 := Bool.eq_false_iff.mpr c5
  subst c5
  have H1 : (some (([] : List (S97)), 1)) = some (r1, r2) := by rw [if_neg (show ¬ (false = true) by decide)] at H; exact H
  clear H
  have H := H1
  clear H1
  simp only [Option.some.injEq, Prod.mk.injEq] at H
  obtain ⟨rfl, rfl⟩ := H
  go_enter Try.func47, Try.ntmps47
  go_wp2_with (first | ((with_reducible refine gate_dst (N := 3) rfl ?_); refine box_event ?hg (N := 3) ?hd (cs := #[.int .i64 a0_0, .slice A0_1 l0_1.length c0_1]) (t := 29) ?hr ?_; (case hd => rfl); (case hg => rfl); (case hr => first | (go_simp; done) | (go_simp; rfl)); intro gb248 hg w37 hbox hb; have n0_ := Aside0.mk (below_step (bl0_ HB.out) hb); have n1_ := Aside0.mk (hbox); have n2_ := Aside0.mk ((by rw [hg]; exact (below_size (bl0_ HB.out)) : w.heap.size ≤ gb248)); have n3_ := Aside0.mk ((by rw [hg]; exact (below_size (bl0_ HB.out)) : w.heap.size ≤ gb248)); clear HB; have HB := n0_; have BK248 := n1_; have GW248 := n2_; have GE248 := n3_; clear n0_ n1_ n2_ n3_; clear hb hbox hg; have hcz38_0 : w37.cell? ⟨gb248, 0, none⟩ = some (.int .i64 a0_0) := (blk_cell BK248.out 0).trans rfl; have hcz38_1 : w37.cell? ⟨gb248, 1, none⟩ = some (.slice A0_1 l0_1.length c0_1) := (blk_cell BK248.out 1).trans rfl; have hfz38_0 := blk_frozen BK248.out 0; have hfz38_1 := blk_frozen BK248.out 1) | ((with_reducible refine gate_callee (f := 37) rfl ?_); refine goesL_ (some 16) rfl rfl Try.func37 (by kernel_rfl) rfl #[.agg #[.int .i64 a0_0, .slice A0_1 l0_1.length c0_1], .int .i64 a1, .slice A2 l2.length c2] rfl mp_ ?_; (with_reducible refine (spec_ValidPacking.calls k a0_0 _ _ l0_1 a1 _ _ l2 false _ ?side1 ?side2 ?side3 ?side4 A4.out).mono ?_); (case side1 => exact ca_ (Kd.C_below HR0_1.out HB.out)); (case side2 => exact HC0_1.out); (case side3 => exact ca_ (Kd.C_below HR2.out HB.out)); (case side4 => exact HC2.out); rintro e w39 ⟨rfl, hb⟩; refine ⟨_, rfl, ?_⟩; have n0_ := Aside0.mk (blk_below (g := gb248) (o := .cells #[.int .i64 a0_0, .slice A0_1 l0_1.length c0_1] 29 (0, 0)) (bk_ BK248.out) hb); have n1_ := Aside0.mk (below_step (bl1_ HB.out GE248.out) hb); clear BK248; clear HB; have BK248 := n0_; have HB := n1_; clear n0_ n1_; (try clear hb); (try clear hb2); (try clear hk); (try clear hi)))
  go_ret2
  exact ⟨_, re_, by first | exact Kd.R_nil _ _ _ _ _ | exact Kd.N_nil _ _ _ _ _ | exact Kd.V_nil _ _ _ _ _ | exact Kd.Q_nil _ _ _ _ _ | exact Kd.S_nil _ _ _ _ _, bl1_ HB.out GE248.out⟩

/-! ### impl_within: function 60 -/
def impl_within.f (a0 : Int) (a1 : Int) (a2 : Int) : Option (Bool) := if a0 ≥ a1 then (some (decide (a0 ≤ a2))) else (some false)
set_option maxHeartbeats 8000000 in
set_option maxRecDepth 100000 in
theorem impl_within.calls (a0 : Int) (a1 : Int) (a2 : Int) (r : Bool) (w : World) (h : impl_within.f a0 a1 a2 = some r) :
  Calls Try.prog 60 #[.int .i64 a0, .int .i64 a1, .int .i64 a2] w fun e w' => e = .returned (.bool r) ∧ Drawn0 w w' := by
 have H : (if a0 ≥ a1 then (some (decide (a0 ≤ a2))) else (some false)) = some r := h
 clear h
 by_cases c4 : a0 ≥ a1
 ·rw [if_pos c4] at H
  have c4b0 := decide_eq_true c4
  clear c4
  obtain rfl := Option.some.inj H
  go_enter Try.func60, Try.ntmps60
  go_wp2
  go_ret
  exact ⟨by first | rfl | (simp; done) | (simp [*]; done), by repeat (first | exact Drawn0.refl _ | apply Drawn0.step)⟩
 ·rw [if_neg c4] at H
  have c4b0 := decide_eq_false c4
  clear c4
  obtain rfl := Option.some.inj H
  go_enter Try.func60, Try.ntmps60
  go_wp2
  go_ret
  exact ⟨by first | rfl | (simp; done) | (simp [*]; done), by repeat (first | exact Drawn0.refl _ | apply Drawn0.step)⟩

/-! ### cmp_Or_int: function 91 -/
def cmp_Or_int.l0 : Nat → Int → List Int → Int → Int → Option (Int)
 | 0, _, _, _, _ => none
 | k + 1, x3, x6, x7, x8 => if x8 < x7 then (if 0 ≤ x8 then (if x8 < (x6.length : Int) then (if (rd x6 x8) = x3 then (cmp_Or_int.l0 k x3 x6 x7 (wrap64 (x8 + 1))) else (some (rd x6 x8))) else (none)) else (none)) else (some x3)
def cmp_Or_int.f (k : Nat) (l0 : List Int) : Option (Int) := cmp_Or_int.l0 k 0 l0 (l0.length : Int) 0
theorem cmp_Or_int.mono_l : ∀ k, (∀ y0 y1 y2 y3, LeO (cmp_Or_int.l0 k y0 y1 y2 y3) (cmp_Or_int.l0 (k + 1) y0 y1 y2 y3))
 | 0 => fun _ _ _ _ r h => by simp [cmp_Or_int.l0] at h
 | k + 1 => by
  have ih0 := cmp_Or_int.mono_l k
  ·intro y0 y1 y2 y3
   unfold cmp_Or_int.l0
   repeat' first
   | (with_reducible exact ih0 _ _ _ _)
   | (with_reducible exact LeO.refl _)
   | (with_reducible exact LeO.none _)
   | (with_reducible refine LeO.ite ?_ ?_)
   | (with_reducible refine LeO.bind ?_ (fun _ => ?_))
theorem cmp_Or_int.mono : ∀ a0 k, LeO (cmp_Or_int.f k a0) (cmp_Or_int.f (k + 1) a0) := by
 intro a0 k
 have ih0 := cmp_Or_int.mono_l k
 unfold cmp_Or_int.f
 repeat' first
   | (with_reducible exact ih0 _ _ _ _)
   | (with_reducible exact LeO.refl _)
   | (with_reducible exact LeO.none _)
   | (with_reducible refine LeO.ite ?_ ?_)
   | (with_reducible refine LeO.bind ?_ (fun _ => ?_))
set_option maxHeartbeats 8000000 in
set_option maxRecDepth 100000 in
theorem cmp_Or_int.calls (k : Nat) (A0 : Option Addr) (c0 : Nat) (l0 : List Int) (r : Int) (w : World) (hr0 : Kd.C (Kd.int .i64) w A0 l0.length l0) (hc0 : l0.length ≤ c0) (h : cmp_Or_int.f k l0 = some r) :
  Calls Try.prog 91 #[.slice A0 l0.length c0] w fun e w' => e = .returned (.int .i64 r) ∧ Drawn0 w w' := by
 have HR0 := Aside0.mk hr0
 have HC0 := Aside0.mk hc0
 clear hr0 hc0
 have H : (cmp_Or_int.l0 k 0 l0 (l0.length : Int) 0) = some r := h
 clear h
 have H' := Aside0.mk H
 clear H
 go_enter Try.func91, Try.ntmps91
 go_wp2
 go_loopg [8] k (fun kq v8 w' => ∃ (x8_1 : Int), v8 = .int .i64 x8_1 ∧ Aside0 (cmp_Or_int.l0 kq 0 l0 (l0.length : Int) x8_1 = some r) ∧ Aside0 (kq ≤ k) ∧ Drawn0 w w')
 case atStart => exact ⟨(0), rs_, H', ⟨Nat.le_refl _⟩, by repeat (first | exact Drawn0.refl _ | apply Drawn0.step)⟩
 case round =>
  clear H'
  obtain ⟨x8_1, rfl, HA, HK1, ⟨m1, rfl⟩⟩ := hrel
  cases gk with
  | zero => exact absurd HA.out (by simp [cmp_Or_int.l0])
  | succ k1 =>
   have H := HA.out
   clear HA
   simp only [cmp_Or_int.l0] at H
   by_cases c2 : x8_1 < (l0.length : Int)
   ·rw [if_pos c2] at H
    have c2b0 := decide_eq_true c2
    clear c2
    by_cases c3 : 0 ≤ x8_1
    rotate_left
    ·exact nope_ c3 H
    rw [if_pos c3] at H
    have c3b0 := decide_eq_true c3
    clear c3
    by_cases c4 : x8_1 < (l0.length : Int)
    rotate_left
    ·exact nope_ c4 H
    rw [if_pos c4] at H
    have c4b0 := decide_eq_true c4
    clear c4
    by_cases c5 : (rd l0 x8_1) = 0
    ·rw [if_pos c5] at H
     have c5b0 : ((rd l0 x8_1) == 0) = true := beq_iff_eq.mpr c5
     have c5b1 : ((rd l0 x8_1) != 0) = false := bne_eq_false_iff_eq.mpr c5
     clear c5
     have H' := Aside0.mk H
     clear H
     have p271 : 0 ≤ (x8_1 : Int) := od_
     have q271 : x8_1 < (l0.length : Int) := od_
     obtain ⟨ad271, e271, hx271_0⟩ := Kd.at_int HR0.out x8_1 p271 q271
     cases e271
     replace p271 := eq_true p271
     replace q271 := eq_true q271
     go_wp2
     go_roundg k1
     case measure => have := HK1.out; omega
     case rel => exact ⟨(wrap64 (x8_1 + 1)), rs_, H', ⟨by have := HK1.out; omega⟩, by repeat (first | exact Drawn0.refl _ | apply Drawn0.step)⟩
    ·rw [if_neg c5] at H
     have c5b0 : ((rd l0 x8_1) == 0) = false := beq_eq_false_iff_ne.mpr c5
     have c5b1 : ((rd l0 x8_1) != 0) = true := bne_iff_ne.mpr c5
     obtain rfl := Option.some.inj H
     have p271 : 0 ≤ (x8_1 : Int) := od_
     have q271 : x8_1 < (l0.length : Int) := od_
     obtain ⟨ad271, e271, hx271_0⟩ := Kd.at_int HR0.out x8_1 p271 q271
     cases e271
     replace p271 := eq_true p271
     replace q271 := eq_true q271
     go_wp2
     go_ret
     exact ⟨by first | rfl | (simp; done) | (simp [*]; done), by repeat (first | exact Drawn0.refl _ | apply Drawn0.step)⟩
   ·rw [if_neg c2] at H
    have c2b0 := decide_eq_false c2
    clear c2
    obtain rfl := Option.some.inj H
    go_wp2
    go_ret
    exact ⟨by first | rfl | (simp; done) | (simp [*]; done), by repeat (first | exact Drawn0.refl _ | apply Drawn0.step)⟩

/-! ### cmp_isNaN_int64: function 99 -/
def cmp_isNaN_int64.f (a0 : Int) : Option (Bool) := some (a0 != a0)
set_option maxHeartbeats 8000000 in
set_option maxRecDepth 100000 in
theorem cmp_isNaN_int64.calls (a0 : Int) (r : Bool) (w : World) (h : cmp_isNaN_int64.f a0 = some r) :
  Calls Try.prog 99 #[.int .i64 a0] w fun e w' => e = .returned (.bool r) ∧ Drawn0 w w' := by
 have H : (some (a0 != a0)) = some r := h
 clear h
 obtain rfl := Option.some.inj H
 go_enter Try.func99, Try.ntmps99
 go_wp2
 go_ret
 exact ⟨by first | rfl | (simp; done) | (simp [*]; done), by repeat (first | exact Drawn0.refl _ | apply Drawn0.step)⟩

/-! ### cmp_Compare_int64: function 92 -/
def cmp_Compare_int64.f (a0 : Int) (a1 : Int) : Option (Int) := (cmp_isNaN_int64.f a0).bind fun t272 => ((cmp_isNaN_int64.f a1).bind fun t273 => (if t272 = true then (if t273 = true then (some 0) else (some (-1))) else (if t273 = true then (some 1) else (if a0 < a1 then (some (-1)) else (if a0 > a1 then (some 1) else (some 0))))))
set_option maxHeartbeats 8000000 in
set_option maxRecDepth 100000 in
theorem cmp_Compare_int64.calls (a0 : Int) (a1 : Int) (r : Int) (w : World) (h : cmp_Compare_int64.f a0 a1 = some r) :
  Calls Try.prog 92 #[.int .i64 a0, .int .i64 a1] w fun e w' => e = .returned (.int .i64 r) ∧ Drawn0 w w' := by
 have H : ((cmp_isNaN_int64.f a0).bind fun t272 => ((cmp_isNaN_int64.f a1).bind fun t273 => (if t272 = true then (if t273 = true then (some 0) else (some (-1))) else (if t273 = true then (some 1) else (if a0 < a1 then (some (-1)) else (if a0 > a1 then (some 1) else (some 0))))))) = some r := h
 clear h
 replace H := Option.bind_eq_some_iff.mp H
 obtain ⟨t272, A30, H⟩ := H
 replace H : ((cmp_isNaN_int64.f a1).bind fun t273 => (if t272 = true then (if t273 = true then (some 0) else (some (-1))) else (if t273 = true then (some 1) else (if a0 < a1 then (some (-1)) else (if a0 > a1 then (some 1) else (some 0)))))) = some r := H
 have A3 := Aside0.mk A30
 clear A30
 replace H := Option.bind_eq_some_iff.mp H
 obtain ⟨t273, A40, H⟩ := H
 replace H : (if t272 = true then (if t273 = true then (some 0) else (some (-1))) else (if t273 = true then (some 1) else (if a0 < a1 then (some (-1)) else (if a0 > a1 then (some 1) else (some 0))))) = some r := H
 have A4 := Aside0.mk A40
 clear A40
 by_cases c5 : t272 = true
 ·subst c5
  have H1 : (if t273 = true then (some 0) else (some (-1))) = some r := by rw [if_pos rfl] at H; exact H
  clear H
  have H := H1
  clear H1
  by_cases c6 : t273 = true
  ·subst c6
   have H1 : (some 0) = some r := by rw [if_pos rfl] at H; exact H
   clear H
   have H := H1
   clear H1
   obtain rfl := Option.some.inj H
   go_enter Try.func92, Try.ntmps92
   go_wp2_with (first | ((with_reducible refine gate_callee (f := 99) rfl ?_); refine goesL_ (some 8) rfl rfl Try.func99 (by kernel_rfl) rfl #[.int .i64 a0] rfl mp_ ?_; (with_reducible refine (cmp_isNaN_int64.calls a0 true _ A3.out).mono ?_); rintro e w' ⟨rfl, ⟨nd, rfl⟩⟩; refine ⟨_, rfl, ?_⟩) | ((with_reducible refine gate_callee (f := 99) rfl ?_); refine goesL_ (some 10) rfl rfl Try.func99 (by kernel_rfl) rfl #[.int .i64 a1] rfl mp_ ?_; (with_reducible refine (cmp_isNaN_int64.calls a1 true _ A4.out).mono ?_); rintro e w' ⟨rfl, ⟨nd, rfl⟩⟩; refine ⟨_, rfl, ?_⟩))
   go_ret
   exact ⟨by first | rfl | (simp; done) | (simp [*]; done), by repeat (first | exact Drawn0.refl _ | apply Drawn0.step)⟩
  ·replace c6 := Bool.eq_false_iff.mpr c6
   subst c6
   have H1 : (some (-1)) = some r := by rw [if_neg (show ¬ (false = true) by decide)] at H; exact H
   clear H
   have H := H1
   clear H1
   obtain rfl := Option.some.inj H
   go_enter Try.func92, Try.ntmps92
   go_wp2_with (first | ((with_reducible refine gate_callee (f := 99) rfl ?_); refine goesL_ (some 8) rfl rfl Try.func99 (by kernel_rfl) rfl #[.int .i64 a0] rfl mp_ ?_; (with_reducible refine (cmp_isNaN_int64.calls a0 true _ A3.out).mono ?_); rintro e w' ⟨rfl, ⟨nd, rfl⟩⟩; refine ⟨_, rfl, ?_⟩) | ((with_reducible refine gate_callee (f := 99) rfl ?_); refine goesL_ (some 10) rfl rfl Try.func99 (by kernel_rfl) rfl #[.int .i64 a1] rfl mp_ ?_; (with_reducible refine (cmp_isNaN_int64.calls a1 false _ A4.out).mono ?_); rintro e w' ⟨rfl, ⟨nd, rfl⟩⟩; refine ⟨_, rfl, ?_⟩))
   go_ret
   exact ⟨by first | rfl | (simp; done) | (simp [*]; done), by repeat (first | exact Drawn0.refl _ | apply Drawn0.step)⟩
 ·replace c5 := Bool.eq_false_iff.mpr c5
  subst c5
  have H1 : (if t273 = true then (some 1) else (if a0 < a1 then (some (-1)) else (if a0 > a1 then (some 1) else (some 0)))) = some r := by rw [if_neg (show ¬ (false = true) by decide)] at H; exact H
  clear H
  have H := H1
  clear H1
  by_cases c7 : t273 = true
  ·subst c7
   have H1 : (some 1) = some r := by rw [if_pos rfl] at H; exact H
   clear H
   have H := H1
   clear H1
   obtain rfl := Option.some.inj H
   go_enter Try.func92, Try.ntmps92
   go_wp2_with (first | ((with_reducible refine gate_callee (f := 99) rfl ?_); refine goesL_ (some 8) rfl rfl Try.func99 (by kernel_rfl) rfl #[.int .i64 a0] rfl mp_ ?_; (with_reducible refine (cmp_isNaN_int64.calls a0 false _ A3.out).mono ?_); rintro e w' ⟨rfl, ⟨nd, rfl⟩⟩; refine ⟨_, rfl, ?_⟩) | ((with_reducible refine gate_callee (f := 99) rfl ?_); refine goesL_ (some 10) rfl rfl Try.func99 (by kernel_rfl) rfl #[.int .i64 a1] rfl mp_ ?_; (with_reducible refine (cmp_isNaN_int64.calls a1 true _ A4.out).mono ?_); rintro e w' ⟨rfl, ⟨nd, rfl⟩⟩; refine ⟨_, rfl, ?_⟩))
   go_ret
   exact ⟨by first | rfl | (simp; done) | (simp [*]; done), by repeat (first | exact Drawn0.refl _ | apply Drawn0.step)⟩
  ·replace c7 := Bool.eq_false_iff.mpr c7
   subst c7
   have H1 : (if a0 < a1 then (some (-1)) else (if a0 > a1 then (some 1) else (some 0))) = some r := by rw [if_neg (show ¬ (false = true) by decide)] at H; exact H
   clear H
   have H := H1
   clear H1
   by_cases c8 : a0 < a1
   ·rw [if_pos c8] at H
    have c8b0 := decide_eq_true c8
    clear c8
    obtain rfl := Option.some.inj H
    go_enter Try.func92, Try.ntmps92
    go_wp2_with (first | ((with_reducible refine gate_callee (f := 99) rfl ?_); refine goesL_ (some 8) rfl rfl Try.func99 (by kernel_rfl) rfl #[.int .i64 a0] rfl mp_ ?_; (with_reducible refine (cmp_isNaN_int64.calls a0 false _ A3.out).mono ?_); rintro e w' ⟨rfl, ⟨nd, rfl⟩⟩; refine ⟨_, rfl, ?_⟩) | ((with_reducible refine gate_callee (f := 99) rfl ?_); refine goesL_ (some 10) rfl rfl Try.func99 (by kernel_rfl) rfl #[.int .i64 a1] rfl mp_ ?_; (with_reducible refine (cmp_isNaN_int64.calls a1 false _ A4.out).mono ?_); rintro e w' ⟨rfl, ⟨nd, rfl⟩⟩; refine ⟨_, rfl, ?_⟩))
    go_ret
    exact ⟨by first | rfl | (simp; done) | (simp [*]; done), by repeat (first | exact Drawn0.refl _ | apply Drawn0.step)⟩
   ·rw [if_neg c8] at H
    have c8b0 := decide_eq_false c8
    clear c8
    by_cases c9 : a0 > a1
    ·rw [if_pos c9] at H
     have c9b0 := decide_eq_true c9
     clear c9
     obtain rfl := Option.some.inj H
     go_enter Try.func92, Try.ntmps92
     go_wp2_with (first | ((with_reducible refine gate_callee (f := 99) rfl ?_); refine goesL_ (some 8) rfl rfl Try.func99 (by kernel_rfl) rfl #[.int .i64 a0] rfl mp_ ?_; (with_reducible refine (cmp_isNaN_int64.calls a0 false _ A3.out).mono ?_); rintro e w' ⟨rfl, ⟨nd, rfl⟩⟩; refine ⟨_, rfl, ?_⟩) | ((with_reducible refine gate_callee (f := 99) rfl ?_); refine goesL_ (some 10) rfl rfl Try.func99 (by kernel_rfl) rfl #[.int .i64 a1] rfl mp_ ?_; (with_reducible refine (cmp_isNaN_int64.calls a1 false _ A4.out).mono ?_); rintro e w' ⟨rfl, ⟨nd, rfl⟩⟩; refine ⟨_, rfl, ?_⟩))
     go_ret
     exact ⟨by first | rfl | (simp; done) | (simp [*]; done), by repeat (first | exact Drawn0.refl _ | apply Drawn0.step)⟩
    ·rw [if_neg c9] at H
     have c9b0 := decide_eq_false c9
     clear c9
     obtain rfl := Option.some.inj H
     go_enter Try.func92, Try.ntmps92
     go_wp2_with (first | ((with_reducible refine gate_callee (f := 99) rfl ?_); refine goesL_ (some 8) rfl rfl Try.func99 (by kernel_rfl) rfl #[.int .i64 a0] rfl mp_ ?_; (with_reducible refine (cmp_isNaN_int64.calls a0 false _ A3.out).mono ?_); rintro e w' ⟨rfl, ⟨nd, rfl⟩⟩; refine ⟨_, rfl, ?_⟩) | ((with_reducible refine gate_callee (f := 99) rfl ?_); refine goesL_ (some 10) rfl rfl Try.func99 (by kernel_rfl) rfl #[.int .i64 a1] rfl mp_ ?_; (with_reducible refine (cmp_isNaN_int64.calls a1 false _ A4.out).mono ?_); rintro e w' ⟨rfl, ⟨nd, rfl⟩⟩; refine ⟨_, rfl, ?_⟩))
     go_ret
     exact ⟨by first | rfl | (simp; done) | (simp [*]; done), by repeat (first | exact Drawn0.refl _ | apply Drawn0.step)⟩

/-! ### impl_TreeEdge: function 93 -/
def impl_TreeEdge.f (l0 : List (S71)) : Option (Int) := some (l0.length : Int)
set_option maxHeartbeats 8000000 in
set_option maxRecDepth 100000 in
theorem impl_TreeEdge.calls (A0 : Option Addr) (c0 : Nat) (l0 : List (S71)) (r : Int) (w : World) (hr0 : Kd.C k71 w A0 l0.length l0) (hc0 : l0.length ≤ c0) (h : impl_TreeEdge.f l0 = some r) :
  Calls Try.prog 93 #[.slice A0 l0.length c0] w fun e w' => e = .returned (.int .i64 r) ∧ Drawn0 w w' := by
 have HR0 := Aside0.mk hr0
 have HC0 := Aside0.mk hc0
 clear hr0 hc0
 have H : (some (l0.length : Int)) = some r := h
 clear h
 obtain rfl := Option.some.inj H
 go_enter Try.func93, Try.ntmps93
 go_wp2
 go_ret
 exact ⟨by first | rfl | (simp; done) | (simp [*]; done), by repeat (first | exact Drawn0.refl _ | apply Drawn0.step)⟩

end Go.Proofs.Ytnbhnkpefhdgjaa.I
