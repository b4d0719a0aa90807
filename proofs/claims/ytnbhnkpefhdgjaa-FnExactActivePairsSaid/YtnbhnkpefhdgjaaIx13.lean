/- For functions of the translation: a Lean function each, and that the call of the Go function comes to its answer. Written by this session's own program (myprint.py, over the kit's printer). -/
import Derived.Test.YtnbhnkpefhdgjaaIx0
import Derived.Test.YtnbhnkpefhdgjaaIx11
import Derived.Test.YtnbhnkpefhdgjaaIx12
--compacted
namespace Go.Proofs.Ytnbhnkpefhdgjaa.I
open Go.RowKit Go.Proofs.YtnbhnkpefhdgjaaW.PrintWords Go.Proofs.YtnbhnkpefhdgjaaW.PrintLast Go.Proofs.YtnbhnkpefhdgjaaW.PrintMore
attribute [local go_sem] max2_int min2_int max_two min_two max_three min_three max_four min_four   -- for this text's walks alone
set_option linter.unusedVariables false
set_option linter.unusedSimpArgs false

/-! ### impl_ActivePairs: function 48 -/
mutual
def impl_ActivePairs.l0 : Nat → List (S68) → List Int → List (List Int) → List (S97) → List (S68) → Int → Int → Option ((List (S97)) × Int)
 | 0, _, _, _, _, _, _, _ => none
 | k + 1, x2, x8, x9, x10, x24, x25, x26 => if x26 < x25 then (if 0 ≤ x26 then (if x26 < (x24.length : Int) then (impl_ActivePairs.l1 k x2 x8 x9 x10 x26 (wrap64 (x26 + 1)) x24 x25 x26 ((rd_T68 x24 x26).f0) ((rd_T68 x24 x26).f1)) else (none)) else (none)) else (some (x10, 0))
def impl_ActivePairs.l1 : Nat → List (S68) → List Int → List (List Int) → List (S97) → Int → Int → List (S68) → Int → Int → Int → Int → Option ((List (S97)) × Int)
 | 0, _, _, _, _, _, _, _, _, _, _, _ => none
 | k + 1, x2, x8, x9, x10, x11, x13, x24, x25, x26, x399000, x399001 => if x13 < (x2.length : Int) then (if 0 ≤ x11 then (if x11 < (x9.length : Int) then (if 0 ≤ x13 then (if x13 < ((rd_L5 x9 x11).length : Int) then ((impl_Spot_square.f x399000 x399001 ((rd_T68 x2 x13).f0) ((rd_T68 x2 x13).f1)).bind fun t402 => (if t402 = (wrap64 ((rd (rd_L5 x9 x11) x13) * (rd (rd_L5 x9 x11) x13))) then (if x11 < (x8.length : Int) then (if x13 < (x8.length : Int) then (if x10.length < 8796093022208 then (impl_ActivePairs.l1 k x2 x8 x9 (x10 ++ [(⟨rd x8 x11, rd x8 x13⟩ : S97)]) x11 (wrap64 (x13 + 1)) x24 x25 x26 x399000 x399001) else (none)) else (none)) else (none)) else (impl_ActivePairs.l1 k x2 x8 x9 x10 x11 (wrap64 (x13 + 1)) x24 x25 x26 x399000 x399001))) else (none)) else (none)) else (none)) else (none)) else (impl_ActivePairs.l0 k x2 x8 x9 x10 x24 x25 (wrap64 (x26 + 1)))
end
def impl_ActivePairs.f (k : Nat) (a0_0 : Int) (l0_1 : List (S71)) (a1 : Int) (l2 : List (S68)) : Option ((List (S97)) × Int) := (impl_ValidPacking.f k a0_0 l0_1 a1 l2).bind fun t390 => (if t390 = true then ((impl_Tree_leaves.f k a0_0 l0_1).bind fun t391 => ((impl_Tree_leafDistances.f k a0_0 l0_1).bind fun t394 => (impl_ActivePairs.l0 k l2 t391 t394 ([] : List (S97)) l2 (l2.length : Int) 0))) else (some (([] : List (S97)), 1)))
theorem impl_ActivePairs.mono_l : ∀ k, (∀ y0 y1 y2 y3 y4 y5 y6, LeO (impl_ActivePairs.l0 k y0 y1 y2 y3 y4 y5 y6) (impl_ActivePairs.l0 (k + 1) y0 y1 y2 y3 y4 y5 y6)) ∧ (∀ y0 y1 y2 y3 y4 y5 y6 y7 y8 y9 y10, LeO (impl_ActivePairs.l1 k y0 y1 y2 y3 y4 y5 y6 y7 y8 y9 y10) (impl_ActivePairs.l1 (k + 1) y0 y1 y2 y3 y4 y5 y6 y7 y8 y9 y10))
 | 0 => ⟨fun _ _ _ _ _ _ _ r h => by simp [impl_ActivePairs.l0] at h, fun _ _ _ _ _ _ _ _ _ _ _ r h => by simp [impl_ActivePairs.l1] at h⟩
 | k + 1 => by
  obtain ⟨ih0, ih1⟩ := impl_ActivePairs.mono_l k
  refine ⟨?_, ?_⟩
  ·intro y0 y1 y2 y3 y4 y5 y6
   unfold impl_ActivePairs.l0
   repeat' first
   | (with_reducible exact ih0 _ _ _ _ _ _ _)
   | (with_reducible exact ih1 _ _ _ _ _ _ _ _ _ _ _)
   | (with_reducible exact impl_Tree_leafDistances.mono _ _ _)
   | (with_reducible exact impl_Tree_leaves.mono _ _ _)
   | (with_reducible exact impl_ValidPacking.mono _ _ _ _ _)
   | (with_reducible exact LeO.refl _)
   | (with_reducible exact LeO.none _)
   | (with_reducible refine LeO.ite ?_ ?_)
   | (with_reducible refine LeO.bind ?_ (fun _ => ?_))
   | exact impl_Tree_leafDistances.mono _ _ _
   | exact impl_Tree_leaves.mono _ _ _
   | exact impl_ValidPacking.mono _ _ _ _ _
   | exact LeO.none _
   | refine LeO.ite ?_ ?_
   | refine LeO.bind ?_ (fun _ => ?_)
  ·intro y0 y1 y2 y3 y4 y5 y6 y7 y8 y9 y10
   unfold impl_ActivePairs.l1
   repeat' first
   | (with_reducible exact ih0 _ _ _ _ _ _ _)
   | (with_reducible exact ih1 _ _ _ _ _ _ _ _ _ _ _)
   | (with_reducible exact impl_Tree_leafDistances.mono _ _ _)
   | (with_reducible exact impl_Tree_leaves.mono _ _ _)
   | (with_reducible exact impl_ValidPacking.mono _ _ _ _ _)
   | (with_reducible exact LeO.refl _)
   | (with_reducible exact LeO.none _)
   | (with_reducible refine LeO.ite ?_ ?_)
   | (with_reducible refine LeO.bind ?_ (fun _ => ?_))
   | exact impl_Tree_leafDistances.mono _ _ _
   | exact impl_Tree_leaves.mono _ _ _
   | exact impl_ValidPacking.mono _ _ _ _ _
   | exact LeO.none _
   | refine LeO.ite ?_ ?_
   | refine LeO.bind ?_ (fun _ => ?_)
theorem impl_ActivePairs.mono : ∀ a0 a1 a2 a3 k, LeO (impl_ActivePairs.f k a0 a1 a2 a3) (impl_ActivePairs.f (k + 1) a0 a1 a2 a3) := by
 intro a0 a1 a2 a3 k
 obtain ⟨ih0, ih1⟩ := impl_ActivePairs.mono_l k
 unfold impl_ActivePairs.f
 repeat' first
   | (with_reducible exact ih0 _ _ _ _ _ _ _)
   | (with_reducible exact ih1 _ _ _ _ _ _ _ _ _ _ _)
   | (with_reducible exact impl_Tree_leafDistances.mono _ _ _)
   | (with_reducible exact impl_Tree_leaves.mono _ _ _)
   | (with_reducible exact impl_ValidPacking.mono _ _ _ _ _)
   | (with_reducible exact LeO.refl _)
   | (with_reducible exact LeO.none _)
   | (with_reducible refine LeO.ite ?_ ?_)
   | (with_reducible refine LeO.bind ?_ (fun _ => ?_))
   | exact impl_Tree_leafDistances.mono _ _ _
   | exact impl_Tree_leaves.mono _ _ _
   | exact impl_ValidPacking.mono _ _ _ _ _
   | exact LeO.none _
   | refine LeO.ite ?_ ?_
   | refine LeO.bind ?_ (fun _ => ?_)
def impl_ActivePairs.T12 : Bool × List (List Nat × List Nat) := (true, [([], []), ([], []), ([], []), ([1, 2], [1, 2]), ([3], [3]), ([0, 4], [0, 4]), ([], []), ([], []), ([6, 7], [6, 7]), ([5, 8], [5, 8])])
def impl_ActivePairs.B12 : List Nat := [0, 0, 0, 6, 14, 31, 0, 0, 192, 511]
theorem impl_ActivePairs.tab12 : rtab .any (opsOf Try.f48 12) = impl_ActivePairs.T12 := by kernel_rfl
theorem impl_ActivePairs.bits12 : waitsOk impl_ActivePairs.T12.2 impl_ActivePairs.B12 = true := by kernel_rfl
def impl_ActivePairs.T13 : Bool × List (List Nat × List Nat) := (true, [([], []), ([], []), ([], []), ([1, 2], [1, 2]), ([3], [3]), ([], []), ([], []), ([5, 6], [5, 6]), ([7], [7]), ([4, 8], [4, 8]), ([9], [9]), ([0, 10], [0, 10]), ([11, 11, 0, 1, 2, 3, 4, 5, 6, 7, 8, 9, 10, 11], [0, 11])])
def impl_ActivePairs.B13 : List Nat := [0, 0, 0, 6, 14, 0, 0, 96, 224, 510, 1022, 2047, 4095]
theorem impl_ActivePairs.tab13 : rtab .any (opsOf Try.f48 13) = impl_ActivePairs.T13 := by kernel_rfl
theorem impl_ActivePairs.bits13 : waitsOk impl_ActivePairs.T13.2 impl_ActivePairs.B13 = true := by kernel_rfl
set_option maxHeartbeats 8000000 in
set_option maxRecDepth 100000 in
theorem impl_ActivePairs.calls (k : Nat) (a0_0 : Int) (A0_1 : Option Addr) (c0_1 : Nat) (l0_1 : List (S71)) (a1 : Int) (A2 : Option Addr) (c2 : Nat) (l2 : List (S68)) (r1 : List (S97)) (r2 : Int) (w : World) (hr0_1 : Kd.C k71 w A0_1 l0_1.length l0_1) (hc0_1 : l0_1.length ≤ c0_1) (hr2 : Kd.C k68 w A2 l2.length l2) (hc2 : l2.length ≤ c2) (h : impl_ActivePairs.f k a0_0 l0_1 a1 l2 = some (r1, r2)) :
  Calls Try.prog 48 #[.agg #[.int .i64 a0_0, .slice A0_1 l0_1.length c0_1], .int .i64 a1, .slice A2 l2.length c2] w fun e w' => ∃ v0_ : Value, e = .returned (.tuple #[v0_, .int .i64 r2]) ∧ Kd.R k97 97 w' w.heap.size (fun _ => True) v0_ r1 ∧ Below w.heap.size w w' := by
 have hu29 := Try.underlying29
 have hu68 := Try.underlying68
 have hu97 := Try.underlying97
 have HR0_1 := Aside0.mk hr0_1
 have HC0_1 := Aside0.mk hc0_1
 clear hr0_1 hc0_1
 have HR2 := Aside0.mk hr2
 have HC2 := Aside0.mk hc2
 clear hr2 hc2
 have HB := Aside0.mk (Below.refl w.heap.size w)
 have H : ((impl_ValidPacking.f k a0_0 l0_1 a1 l2).bind fun t390 => (if t390 = true then ((impl_Tree_leaves.f k a0_0 l0_1).bind fun t391 => ((impl_Tree_leafDistances.f k a0_0 l0_1).bind fun t394 => (impl_ActivePairs.l0 k l2 t391 t394 ([] : List (S97)) l2 (l2.length : Int) 0))) else (some (([] : List (S97)), 1)))) = some (r1, r2) := h
 clear h
 replace H := Option.bind_eq_some_iff.mp H
 obtain ⟨t390, A40, H⟩ := H
 replace H : (if t390 = true then ((impl_Tree_leaves.f k a0_0 l0_1).bind fun t391 => ((impl_Tree_leafDistances.f k a0_0 l0_1).bind fun t394 => (impl_ActivePairs.l0 k l2 t391 t394 ([] : List (S97)) l2 (l2.length : Int) 0))) else (some (([] : List (S97)), 1))) = some (r1, r2) := H
 have A4 := Aside0.mk A40
 clear A40
 by_cases c5 : t390 = true
 ·subst c5
  have H1 : ((impl_Tree_leaves.f k a0_0 l0_1).bind fun t391 => ((impl_Tree_leafDistances.f k a0_0 l0_1).bind fun t394 => (impl_ActivePairs.l0 k l2 t391 t394 ([] : List (S97)) l2 (l2.length : Int) 0))) = some (r1, r2) := by rw [if_pos rfl] at H; exact H
  clear H
  have H := H1
  clear H1
  replace H := Option.bind_eq_some_iff.mp H
  obtain ⟨t391, A60, H⟩ := H
  replace H : ((impl_Tree_leafDistances.f k a0_0 l0_1).bind fun t394 => (impl_ActivePairs.l0 k l2 t391 t394 ([] : List (S97)) l2 (l2.length : Int) 0)) = some (r1, r2) := H
  have A6 := Aside0.mk A60
  clear A60
  replace H := Option.bind_eq_some_iff.mp H
  obtain ⟨t394, A70, H⟩ := H
  replace H : (impl_ActivePairs.l0 k l2 t391 t394 ([] : List (S97)) l2 (l2.length : Int) 0) = some (r1, r2) := H
  have A7 := Aside0.mk A70
  clear A70
  have H' := Aside0.mk H
  clear H
  go_enter Try.func48, Try.ntmps48
  try go_wp2_with (first | ((with_reducible refine gate_dst (N := 3) rfl ?_); refine box_event ?hg (N := 3) ?hd (cs := #[.int .i64 a0_0, .slice A0_1 l0_1.length c0_1]) (t := 29) ?hr ?_; (case hd => rfl); (case hg => rfl); (case hr => first | (go_simp; done) | (go_simp; rfl)); intro gb389 hg w8 hbox hb; have n0_ := Aside0.mk (below_step (bl0_ HB.out) hb); have n1_ := Aside0.mk (hbox); have n2_ := Aside0.mk ((by rw [hg]; exact (below_size (bl0_ HB.out)) : w.heap.size ≤ gb389)); have n3_ := Aside0.mk ((by rw [hg]; exact (below_size (bl0_ HB.out)) : w.heap.size ≤ gb389)); clear HB; have HB := n0_; have BK389 := n1_; have GW389 := n2_; have GE389 := n3_; clear n0_ n1_ n2_ n3_; clear hb hbox hg; have hcz9_0 : w8.cell? ⟨gb389, 0, none⟩ = some (.int .i64 a0_0) := (blk_cell BK389.out 0).trans rfl; have hcz9_1 : w8.cell? ⟨gb389, 1, none⟩ = some (.slice A0_1 l0_1.length c0_1) := (blk_cell BK389.out 1).trans rfl; have hfz9_0 := blk_frozen BK389.out 0; have hfz9_1 := blk_frozen BK389.out 1) | ((with_reducible refine gate_callee (f := 39) rfl ?_); refine goesL_ (some 18) rfl rfl Try.func39 (by kernel_rfl) rfl #[.agg #[.int .i64 a0_0, .slice A0_1 l0_1.length c0_1], .int .i64 a1, .slice A2 l2.length c2] rfl mp_ ?_; (with_reducible refine (impl_ValidPacking.calls k a0_0 _ _ l0_1 a1 _ _ l2 true _ ?side1 ?side2 ?side3 ?side4 A4.out).mono ?_); (case side1 => exact ca_ (Kd.C_below HR0_1.out HB.out)); (case side2 => exact HC0_1.out); (case side3 => exact ca_ (Kd.C_below HR2.out HB.out)); (case side4 => exact HC2.out); rintro e w10 ⟨rfl, hb⟩; refine ⟨_, rfl, ?_⟩; have n0_ := Aside0.mk (blk_below (g := gb389) (o := .cells #[.int .i64 a0_0, .slice A0_1 l0_1.length c0_1] 29 (0, 0)) (bk_ BK389.out) hb); have n1_ := Aside0.mk (below_step (bl1_ HB.out GE389.out) hb); clear BK389; clear HB; have BK389 := n0_; have HB := n1_; clear n0_ n1_; (try clear hb); (try clear hb2); (try clear hk); (try clear hi)))
  have n0_ := Aside0.mk (blk_drew BK389.out)
  have n1_ := Aside0.mk (below_drew1 HB.out)
  clear BK389
  clear HB
  have BK389 := n0_
  have HB := n1_
  clear n0_ n1_
  refine start_ (n := 6) (S := fun w' => w'.cell? ⟨gb389, 0, none⟩ = some (.int .i64 a0_0) ∧ w'.cell? ⟨gb389, 1, none⟩ = some (.slice A0_1 l0_1.length c0_1)) (ds := []) #[false,false,false,false,false,false] (by kernel_rfl) rfl rfl ⟨(blk_cell BK389.out 0).trans rfl, (blk_cell BK389.out 1).trans rfl⟩ (fun hHeld => ?_)
  generalize w10.drew = w11 at BK389 HB hHeld ⊢
  refine tkz_ 0 (some 20) #[true,false,false,false,false,false] rfl rfl (by kernel_rfl) hHeld ?_
  refine tkz_ 2 (some 22) #[true,false,true,false,false,false] rfl rfl (by kernel_rfl) hHeld ?_
  refine one_ (i := 1) (N := some 21) #[true,true,true,false,false,false] rfl rfl (by kernel_rfl) (by decide) (fun K hK => ?_)
  refine goes_ Try.func69 (by kernel_rfl) rfl #[.agg #[.int .i64 a0_0, .slice A0_1 l0_1.length c0_1]] (by rfl) rfl rfl mp_ ?_
  with_reducible refine (impl_Tree_leaves.calls k a0_0 _ _ l0_1 t391 _ ?side1 ?side2 A6.out).mono ?_
  (case side1 => exact ca_ (Kd.C_below HR0_1.out HB.out))
  (case side2 => exact HC0_1.out)
  rintro e w12 ⟨v392, rfl, ho0, hb⟩
  refine ⟨_, rfl, ?_⟩
  have n0_ := Aside0.mk (Kd.R_lower ho0 (below_size (bl1_ HB.out GE389.out)))
  have n1_ := Aside0.mk (blk_below (g := gb389) (o := .cells #[.int .i64 a0_0, .slice A0_1 l0_1.length c0_1] 29 (0, 0)) (bk_ BK389.out) hb)
  have n2_ := Aside0.mk (below_step (bl1_ HB.out GE389.out) hb)
  clear BK389
  clear HB
  have HO393 := n0_
  have BK389 := n1_
  have HB := n2_
  clear n0_ n1_ n2_
  (try clear hb)
  (try clear hb2)
  (try clear hk)
  (try clear hi)
  (try clear ho0)
  refine hK.out _ _ ⟨(blk_cell BK389.out 0).trans rfl, (blk_cell BK389.out 1).trans rfl⟩ (fun hHeld => ?_)
  clear hK K
  refine norm_ (a' := ?_) ?_ ?_
  rotate_left
  ·show Act.put _ (some 21) _ = _
   simp only [Act.put, List.setIfInBounds_toArray, List.set_cons_zero, List.set_cons_succ, i64_w, i32_w]
   rfl
  refine one_ (i := 3) (N := some 23) #[true,true,true,true,false,false] rfl rfl (by kernel_rfl) (by decide) (fun K hK => ?_)
  refine goes_ Try.func71 (by kernel_rfl) rfl #[.agg #[.int .i64 a0_0, .slice A0_1 l0_1.length c0_1]] (by rfl) rfl rfl mp_ ?_
  with_reducible refine (impl_Tree_leafDistances.calls k a0_0 _ _ l0_1 t394 _ ?side1 ?side2 A7.out).mono ?_
  (case side1 => exact ca_ (Kd.C_below HR0_1.out HB.out))
  (case side2 => exact HC0_1.out)
  rintro e w13 ⟨v395, rfl, ho0, hb⟩
  refine ⟨_, rfl, ?_⟩
  have n0_ := Aside0.mk (Kd.R_below (ra_ HO393.out) hb)
  have n1_ := Aside0.mk (Kd.S_lower (Kd.S_new' ho0 (Kd.R_lt (ra_ HO393.out))) (below_size (bl1_ HB.out GE389.out)))
  have n2_ := Aside0.mk (blk_below (g := gb389) (o := .cells #[.int .i64 a0_0, .slice A0_1 l0_1.length c0_1] 29 (0, 0)) (bk_ BK389.out) hb)
  have n3_ := Aside0.mk (below_step (bl1_ HB.out GE389.out) hb)
  clear HO393
  clear BK389
  clear HB
  have HO393 := n0_
  have HO396 := n1_
  have BK389 := n2_
  have HB := n3_
  clear n0_ n1_ n2_ n3_
  (try clear hb)
  (try clear hb2)
  (try clear hk)
  (try clear hi)
  (try clear ho0)
  refine hK.out _ _ ⟨(blk_cell BK389.out 0).trans rfl, (blk_cell BK389.out 1).trans rfl⟩ (fun hHeld => ?_)
  clear hK K
  refine norm_ (a' := ?_) ?_ ?_
  rotate_left
  ·show Act.put _ (some 23) _ = _
   simp only [Act.put, List.setIfInBounds_toArray, List.set_cons_zero, List.set_cons_succ, i64_w, i32_w]
   rfl
  refine puz_ 4 (some 8) #[true,true,true,true,true,false] rfl rfl (by kernel_rfl) ?_
  refine puz_ 5 (some 9) #[true,true,true,true,true,true] rfl rfl (by kernel_rfl) ?_
  refine done_ (by kernel_rfl) ?_
  try go_wp2
  go_loopg [10, 26] k (fun kq v10 v26 w' => ∃ (x10_1 : List (S97)) (x26_1 : Int), v26 = .int .i64 x26_1 ∧ Aside0 (impl_ActivePairs.l0 kq l2 t391 t394 x10_1 l2 (l2.length : Int) x26_1 = some (r1, r2)) ∧ Aside0 (kq ≤ k) ∧ Aside0 (Kd.R (Kd.int .i64) 2 w' w.heap.size (fun _ => True) v392 t391) ∧ Aside0 (Kd.S (Kd.slice 2 (Kd.int .i64)) 36 w' w.heap.size (fun k_ => some k_ ≠ (v392 : Value).ownBlock) v395 t394) ∧ Aside0 (Kd.R k97 97 w' w.heap.size (fun _ => True) v10 x10_1) ∧ Aside0 (w'.heap[gb389]? = some (.cells #[.int .i64 a0_0, (.slice A0_1 l0_1.length c0_1)] 29 (0, 0))) ∧ Aside0 (Below w.heap.size w w'))
  case atStart => exact ⟨(([] : List (S97))), (0), rs_, H', ⟨Nat.le_refl _⟩, ⟨ra_ HO393.out⟩, ⟨by (with_reducible repeat (first | apply Kd.S_alloc | apply Kd.S_drewN | apply Kd.S_drew)); exact Kd.S_mono HO396.out (fun _ hk => hk.2)⟩, ⟨by first | exact Kd.R_nil _ _ _ _ _ | exact Kd.N_nil _ _ _ _ _ | exact Kd.V_nil _ _ _ _ _ | exact Kd.Q_nil _ _ _ _ _ | exact Kd.S_nil _ _ _ _ _⟩, ⟨bk_ BK389.out⟩, ⟨bl1_ HB.out GE389.out⟩⟩
  case round =>
   clear H'
   try clear c2
   try clear p2
   try clear c3
   try clear c4
   try clear c5
   try clear c6
   try clear c7
   try clear hcz9_0
   try clear hcz9_1
   try clear hfz9_0
   try clear hfz9_1
   obtain ⟨x10_1, x26_1, rfl, HA, HK1, HO_8, HO_9, HO_10, BK389, HB⟩ := hrel
   cases gk with
   | zero => exact absurd HA.out (by simp [impl_ActivePairs.l0])
   | succ k1 =>
    have H := HA.out
    clear HA
    simp only [impl_ActivePairs.l0] at H
    by_cases c14 : x26_1 < (l2.length : Int)
    ·rw [if_pos c14] at H
     have c14b0 := decide_eq_true c14
     clear c14
     by_cases c15 : 0 ≤ x26_1
     rotate_left
     ·exact nope_ c15 H
     rw [if_pos c15] at H
     have c15b0 := decide_eq_true c15
     clear c15
     by_cases c16 : x26_1 < (l2.length : Int)
     rotate_left
     ·exact nope_ c16 H
     rw [if_pos c16] at H
     have c16b0 := decide_eq_true c16
     clear c16
     have H' := Aside0.mk H
     clear H
     have p397 : 0 ≤ (x26_1 : Int) := od_
     have q397 : x26_1 < (l2.length : Int) := od_
     obtain ⟨ad397, e397, hx397_0, hx397_1⟩ := at_T68 HR2.out x26_1 p397 q397
     cases e397
     replace hx397_0 := (HB.out.cell (World.block_lt_of_cell? w _ hx397_0)).trans hx397_0
     replace hx397_1 := (HB.out.cell (World.block_lt_of_cell? w _ hx397_1)).trans hx397_1
     replace p397 := eq_true p397
     replace q397 := eq_true q397
     go_wp2_with (first | ((with_reducible refine gate_dst (N := 12) rfl ?_); refine box_event ?hg (N := 12) ?hd (cs := #[.int .i64 0, .int .i64 0]) (t := 68) ?hr ?_; (case hd => rfl); (case hg => rfl); (case hr => first | (go_simp; done) | (go_simp; rfl)); intro gb398 hg w17 hbox hb; have n0_ := Aside0.mk (Kd.R_below (ra_ HO_8.out) hb); have n1_ := Aside0.mk (Kd.S_below (by (with_reducible repeat (first | apply Kd.S_alloc | apply Kd.S_drewN | apply Kd.S_drew)); exact HO_9.out) hb); have n2_ := Aside0.mk (Kd.R_below (ra_ HO_10.out) hb); have n3_ := Aside0.mk (blk_below (g := gb389) (o := .cells #[.int .i64 a0_0, .slice A0_1 l0_1.length c0_1] 29 (0, 0)) (bk_ BK389.out) hb); have n4_ := Aside0.mk (below_step (bl1_ HB.out GE389.out) hb); have n5_ := Aside0.mk (hbox); have n6_ := Aside0.mk ((by rw [hg]; exact (below_size (bl1_ HB.out GE389.out)) : w.heap.size ≤ gb398)); have n7_ := Aside0.mk ((by rw [hg]; exact (below_size (bl1_ HB.out GE389.out)) : w.heap.size ≤ gb398)); have n8_ := Aside0.mk ((by rw [hg]; exact Nat.ne_of_lt (blk_lt (bk_ BK389.out)) : gb389 ≠ gb398)); have n9_ := Aside0.mk ((by rw [hg]; exact Nat.ne_of_gt (blk_lt (bk_ BK389.out)) : gb398 ≠ gb389)); clear HO_8; clear HO_9; clear HO_10; clear BK389; clear HB; have HO_8 := n0_; have HO_9 := n1_; have HO_10 := n2_; have BK389 := n3_; have HB := n4_; have BK398 := n5_; have GW398 := n6_; have GE398 := n7_; have NB389_398 := n8_; have NB398_389 := n9_; clear n0_ n1_ n2_ n3_ n4_ n5_ n6_ n7_ n8_ n9_; clear hb hbox hg; have hnb18 := NB398_389.out; have hnc18 := NB389_398.out; have hcz19_0 : w17.cell? ⟨gb398, 0, none⟩ = some (.int .i64 0) := (blk_cell BK398.out 0).trans rfl; have hcz19_1 : w17.cell? ⟨gb398, 1, none⟩ = some (.int .i64 0) := (blk_cell BK398.out 1).trans rfl; have hfz19_0 := blk_frozen BK398.out 0; have hfz19_1 := blk_frozen BK398.out 1))
     go_loopg [10, 13] k1 (fun kq v10 v13 w' => ∃ (x10_2 : List (S97)) (x13_2 : Int), v13 = .int .i64 x13_2 ∧ Aside0 (impl_ActivePairs.l1 kq l2 t391 t394 x10_2 x26_1 x13_2 l2 (l2.length : Int) x26_1 ((rd_T68 l2 x26_1).f0) ((rd_T68 l2 x26_1).f1) = some (r1, r2)) ∧ Aside0 (kq ≤ k1) ∧ Aside0 (Kd.R (Kd.int .i64) 2 w' w.heap.size (fun _ => True) v392 t391) ∧ Aside0 (Kd.S (Kd.slice 2 (Kd.int .i64)) 36 w' w.heap.size (fun k_ => some k_ ≠ (v392 : Value).ownBlock) v395 t394) ∧ Aside0 (Kd.R k97 97 w' w.heap.size (fun _ => True) v10 x10_2) ∧ Aside0 (w'.heap[gb389]? = some (.cells #[.int .i64 a0_0, (.slice A0_1 l0_1.length c0_1)] 29 (0, 0))) ∧ Aside0 (w'.heap[gb398]? = some (.cells #[.int .i64 ((rd_T68 l2 x26_1).f0), .int .i64 ((rd_T68 l2 x26_1).f1)] 68 (0, 0))) ∧ Aside0 (Below w.heap.size w w'))
     case atStart => exact ⟨(x10_1), (wrap64 (x26_1 + 1)), rs_, H', ⟨Nat.le_refl _⟩, ⟨by (with_reducible repeat (first | apply Kd.R_alloc | apply Kd.R_drewN | apply Kd.R_drew)); exact Kd.R_mono (Kd.R_far (p := ⟨gb398, 1, none⟩) (Kd.R_far (p := ⟨gb398, 0, none⟩) (Kd.R_types HO_8.out BK398.out (by decide)) (fun _ hk => hk.2) (.int .i64 ((rd_T68 l2 x26_1).f0))) (fun _ hk => hk.2) (.int .i64 ((rd_T68 l2 x26_1).f1))) (fun _ hk => trivial)⟩, ⟨by (with_reducible repeat (first | apply Kd.S_alloc | apply Kd.S_drewN | apply Kd.S_drew)); exact Kd.S_mono (Kd.S_far (p := ⟨gb398, 1, none⟩) (Kd.S_far (p := ⟨gb398, 0, none⟩) (Kd.S_types HO_9.out BK398.out (by decide)) (fun _ hk => hk.2) (.int .i64 ((rd_T68 l2 x26_1).f0))) (fun _ hk => hk.2) (.int .i64 ((rd_T68 l2 x26_1).f1))) (fun _ hk => hk.1)⟩, ⟨by (with_reducible repeat (first | apply Kd.R_alloc | apply Kd.R_drewN | apply Kd.R_drew)); exact Kd.R_mono (Kd.R_far (p := ⟨gb398, 1, none⟩) (Kd.R_far (p := ⟨gb398, 0, none⟩) (Kd.R_types HO_10.out BK398.out (by decide)) (fun _ hk => hk.2) (.int .i64 ((rd_T68 l2 x26_1).f0))) (fun _ hk => hk.2) (.int .i64 ((rd_T68 l2 x26_1).f1))) (fun _ hk => trivial)⟩, ⟨by (with_reducible repeat (first | refine blk_drewN ?_ _ | refine blk_drew ?_ | refine blk_alloc ?_ _)); refine blk_far ?_ NB389_398.out _; (with_reducible repeat (first | refine blk_drewN ?_ _ | refine blk_drew ?_ | refine blk_alloc ?_ _)); refine blk_far ?_ NB389_398.out _; (with_reducible repeat (first | refine blk_drewN ?_ _ | refine blk_drew ?_ | refine blk_alloc ?_ _)); exact BK389.out⟩, ⟨by (with_reducible repeat (first | refine blk_drewN ?_ _ | refine blk_drew ?_ | refine blk_alloc ?_ _)); refine blk_put (cs := #[.int .i64 ((rd_T68 l2 x26_1).f0), .int .i64 0]) ?_ 1 _ rfl; (with_reducible repeat (first | refine blk_drewN ?_ _ | refine blk_drew ?_ | refine blk_alloc ?_ _)); refine blk_put (cs := #[.int .i64 0, .int .i64 0]) ?_ 0 _ rfl; (with_reducible repeat (first | refine blk_drewN ?_ _ | refine blk_drew ?_ | refine blk_alloc ?_ _)); exact BK398.out⟩, ⟨bl2_ HB.out GE389.out GE398.out⟩⟩
     case round =>
      clear H'
      try clear c1
      try clear c2
      try clear p2
      try clear c3
      try clear p3
      try clear q3
      try clear hx3
      try clear c4
      try clear c5
      try clear c6
      try clear p6
      try clear c7
      try clear c14
      try clear c14b0
      try clear c15
      try clear c15b0
      try clear c16
      try clear c16b0
      try clear c18
      try clear hcz19_0
      try clear hcz19_1
      try clear hcz9_0
      try clear hcz9_1
      try clear hfz19_0
      try clear hfz19_1
      try clear hfz9_0
      try clear hfz9_1
      try clear hx397_0
      try clear hx397_1
      try clear p2
      try clear p397
      try clear q397
      obtain ⟨x10_2, x13_2, rfl, HA, HK2, HO_8, HO_9, HO_10, BK389, BK398, HB⟩ := hrel
      cases gk with
      | zero => exact absurd HA.out (by simp [impl_ActivePairs.l1])
      | succ k2 =>
       have H := HA.out
       clear HA
       simp only [impl_ActivePairs.l1] at H
       by_cases c20 : x13_2 < (l2.length : Int)
       ·rw [if_pos c20] at H
        have c20b0 := decide_eq_true c20
        clear c20
        by_cases c21 : 0 ≤ x26_1
        rotate_left
        ·exact nope_ c21 H
        rw [if_pos c21] at H
        have c21b0 := decide_eq_true c21
        clear c21
        by_cases c22 : x26_1 < (t394.length : Int)
        rotate_left
        ·exact nope_ c22 H
        rw [if_pos c22] at H
        have c22b0 := decide_eq_true c22
        clear c22
        by_cases c23 : 0 ≤ x13_2
        rotate_left
        ·exact nope_ c23 H
        rw [if_pos c23] at H
        have c23b0 := decide_eq_true c23
        clear c23
        by_cases c24 : x13_2 < ((rd_L5 t394 x26_1).length : Int)
        rotate_left
        ·exact nope_ c24 H
        rw [if_pos c24] at H
        have c24b0 := decide_eq_true c24
        clear c24
        replace H := Option.bind_eq_some_iff.mp H
        obtain ⟨t402, A250, H⟩ := H
        replace H : (if t402 = (wrap64 ((rd (rd_L5 t394 x26_1) x13_2) * (rd (rd_L5 t394 x26_1) x13_2))) then (if x26_1 < (t391.length : Int) then (if x13_2 < (t391.length : Int) then (if x10_2.length < 8796093022208 then (impl_ActivePairs.l1 k2 l2 t391 t394 (x10_2 ++ [(⟨rd t391 x26_1, rd t391 x13_2⟩ : S97)]) x26_1 (wrap64 (x13_2 + 1)) l2 (l2.length : Int) x26_1 ((rd_T68 l2 x26_1).f0) ((rd_T68 l2 x26_1).f1)) else (none)) else (none)) else (none)) else (impl_ActivePairs.l1 k2 l2 t391 t394 x10_2 x26_1 (wrap64 (x13_2 + 1)) l2 (l2.length : Int) x26_1 ((rd_T68 l2 x26_1).f0) ((rd_T68 l2 x26_1).f1))) = some (r1, r2) := H
        have A25 := Aside0.mk A250
        clear A250
        by_cases c26 : t402 = (wrap64 ((rd (rd_L5 t394 x26_1) x13_2) * (rd (rd_L5 t394 x26_1) x13_2)))
        ·rw [if_pos c26] at H
         have c26b0 : (t402 == (wrap64 ((rd (rd_L5 t394 x26_1) x13_2) * (rd (rd_L5 t394 x26_1) x13_2)))) = true := beq_iff_eq.mpr c26
         have c26b1 : (t402 != (wrap64 ((rd (rd_L5 t394 x26_1) x13_2) * (rd (rd_L5 t394 x26_1) x13_2)))) = false := bne_eq_false_iff_eq.mpr c26
         clear c26
         by_cases c27 : x26_1 < (t391.length : Int)
         rotate_left
         ·exact nope_ c27 H
         rw [if_pos c27] at H
         have c27b0 := decide_eq_true c27
         clear c27
         by_cases c28 : x13_2 < (t391.length : Int)
         rotate_left
         ·exact nope_ c28 H
         rw [if_pos c28] at H
         have c28b0 := decide_eq_true c28
         clear c28
         by_cases c29 : x10_2.length < 8796093022208
         rotate_left
         ·exact nope_ c29 H
         rw [if_pos c29] at H
         have LMc29 := Aside0.mk c29
         clear c29
         obtain ⟨y405, hy405⟩ : ∃ y_ : List (S97), y_ = (x10_2 ++ [(⟨rd t391 x26_1, rd t391 x13_2⟩ : S97)]) := ⟨_, rfl⟩
         replace H : (impl_ActivePairs.l1 k2 l2 t391 t394 y405 x26_1 (wrap64 (x13_2 + 1)) l2 (l2.length : Int) x26_1 ((rd_T68 l2 x26_1).f0) ((rd_T68 l2 x26_1).f1)) = some (r1, r2) := yh_ H hy405
         have Ny405 := Aside0.mk hy405
         clear hy405
         have H' := Aside0.mk H
         clear H
         obtain ⟨Ao30, co30, eo30⟩ := Kd.S_slice HO_9.out
         subst eo30
         have p399 : 0 ≤ (x26_1 : Int) := od_
         have q399 : x26_1 < (t394.length : Int) := od_
         obtain ⟨ad399, A399_0, c399_0, e399, hx399_0, hl399_0, hi399_0⟩ := at_L5 (Kd.S_reads' HO_9.out).2.2 x26_1 p399 q399
         cases e399
         obtain ⟨ce399, hce399, hMe399, hcc399⟩ := Kd.S_get HO_9.out [] x26_1 p399 (by first | exact q399 | exact od_ | (have e_ := (Kd.S_reads' HO_9.out).1; omega))
         obtain ⟨ve399_0, rfl, ge399_0⟩ := hMe399
         have hv399_0 := hcc399 0 _ rfl
         rw [Nat.add_zero, show ((Kd.slice 2 (Kd.int .i64))).sz = 1 from rfl, Nat.mul_one] at hv399_0
         replace hv399_0 := Option.some.inj (hv399_0.symm.trans hx399_0)
         rw [hv399_0] at ge399_0
         have HL399_0 := Aside0.mk (show Kd.R (Kd.int .i64) 2 _ _ _ _ (rd_L5 t394 x26_1) from ge399_0)
         clear hv399_0 ge399_0
         clear hcc399 hce399
         have HR399_0 := Aside0.mk hi399_0
         have HC399_0 := Aside0.mk hl399_0
         clear hi399_0 hl399_0
         replace p399 := eq_true p399
         replace q399 := eq_true q399
         have p400 : 0 ≤ (x13_2 : Int) := od_
         have q400 : x13_2 < ((rd_L5 t394 x26_1).length : Int) := od_
         obtain ⟨ad400, e400, hx400_0⟩ := Kd.at_int (by repeat (first | (with_reducible exact HR399_0.out) | (with_reducible refine Kd.C_alloc ?_ _) | (with_reducible refine Kd.C_drewN ?_ _) | (with_reducible refine Kd.C_drew ?_) | exact HR399_0.out)) x13_2 p400 q400
         cases e400
         replace p400 := eq_true p400
         replace q400 := eq_true q400
         try go_wp2
         have n0_ := Aside0.mk (Kd.R_drew HO_8.out)
         have n1_ := Aside0.mk (Kd.S_drew HO_9.out)
         have n2_ := Aside0.mk (Kd.R_drew HO_10.out)
         have n3_ := Aside0.mk (Kd.R_drew HL399_0.out)
         have n4_ := Aside0.mk (blk_drew BK389.out)
         have n5_ := Aside0.mk (blk_drew BK398.out)
         have n6_ := Aside0.mk (Kd.C_drew HR399_0.out)
         have n7_ := Aside0.mk (below_drew1 HB.out)
         clear HO_8
         clear HO_9
         clear HO_10
         clear HL399_0
         clear BK389
         clear BK398
         clear HR399_0
         clear HB
         have HO_8 := n0_
         have HO_9 := n1_
         have HO_10 := n2_
         have HL399_0 := n3_
         have BK389 := n4_
         have BK398 := n5_
         have HR399_0 := n6_
         have HB := n7_
         clear n0_ n1_ n2_ n3_ n4_ n5_ n6_ n7_
         have p401 : 0 ≤ (x13_2 : Int) := od_
         have q401 : x13_2 < (l2.length : Int) := od_
         obtain ⟨ad401, e401, hx401_0, hx401_1⟩ := at_T68 HR2.out x13_2 p401 q401
         have hw401_1 := hx401_1
         have hw401_0 := hx401_0
         obtain rfl : ad397 = ad401 := (by injection e401)
         replace hx401_0 := (HB.out.cell (World.block_lt_of_cell? w _ hx401_0)).trans hx401_0
         replace hx401_1 := (HB.out.cell (World.block_lt_of_cell? w _ hx401_1)).trans hx401_1
         replace p401 := eq_true p401
         replace q401 := eq_true q401
         refine start_ (n := 10) (S := fun w' => w'.cell? ⟨gb398, 0, none⟩ = some (.int .i64 ((rd_T68 l2 x26_1).f0)) ∧ w'.cell? ⟨gb398, 1, none⟩ = some (.int .i64 ((rd_T68 l2 x26_1).f1)) ∧ w'.cell? (ad397.add ((x13_2).toNat * 2)) = some (.int .i64 ((rd_T68 l2 x13_2).f0)) ∧ w'.cell? ⟨(ad397.add ((x13_2).toNat * 2)).block, (ad397.add ((x13_2).toNat * 2)).off + 1, none⟩ = some (.int .i64 ((rd_T68 l2 x13_2).f1))) (ds := []) #[false,false,false,false,false,false,false,false,false,false] (by kernel_rfl) rfl rfl ⟨(blk_cell BK398.out 0).trans rfl, (blk_cell BK398.out 1).trans rfl, ((HB.out.cell (World.block_lt_of_cell? w _ hw401_0)).trans hw401_0), ((HB.out.cell (World.block_lt_of_cell? w _ hw401_1)).trans hw401_1)⟩ (fun hHeld => ?_); refine with_tabW impl_ActivePairs.tab12 impl_ActivePairs.bits12 (fun HT_ HW_ => ?_)
         generalize wr.drew = w31 at HO_8 HO_9 HO_10 HL399_0 BK389 BK398 HR399_0 HB hx401_0 hx401_1 hHeld ⊢
         refine puz_ 1 (some 47) #[false,true,false,false,false,false,false,false,false,false] rfl rfl (any_of HT_.out (by kernel_rfl)) ?_
         refine puz_ 2 (some 48) #[false,true,true,false,false,false,false,false,false,false] rfl rfl (any_of HT_.out (by kernel_rfl)) ?_
         refine puz_ 3 (some 49) #[false,true,true,true,false,false,false,false,false,false] rfl rfl (any_of HT_.out (by kernel_rfl)) ?_
         refine puz_ 6 (some 52) #[false,true,true,true,false,false,true,false,false,false] rfl rfl (any_of HT_.out (by kernel_rfl)) ?_
         refine puz_ 7 (some 53) #[false,true,true,true,false,false,true,true,false,false] rfl rfl (any_of HT_.out (by kernel_rfl)) ?_
         refine puz_ 8 (some 54) #[false,true,true,true,false,false,true,true,true,false] rfl rfl (any_of HT_.out (by kernel_rfl)) ?_
         refine tkz_ 0 (some 46) #[true,true,true,true,false,false,true,true,true,false] rfl rfl (take_ofW HT_.out HW_.out (by kernel_rfl)) hHeld ?_
         refine tkz_ 4 (some 50) #[true,true,true,true,true,false,true,true,true,false] rfl rfl (take_ofW HT_.out HW_.out (by kernel_rfl)) hHeld ?_
         refine one_ (i := 5) (N := some 51) #[true,true,true,true,true,true,true,true,true,false] rfl rfl (one_of HT_.out (by kernel_rfl)) (by decide) (fun K hK => ?_)
         refine goes_ Try.func82 (by kernel_rfl) rfl #[.agg #[.int .i64 ((rd_T68 l2 x26_1).f0), .int .i64 ((rd_T68 l2 x26_1).f1)], .agg #[.int .i64 ((rd_T68 l2 x13_2).f0), .int .i64 ((rd_T68 l2 x13_2).f1)]] (by rfl) rfl rfl mp_ ?_
         with_reducible refine (impl_Spot_square.calls ((rd_T68 l2 x26_1).f0) ((rd_T68 l2 x26_1).f1) ((rd_T68 l2 x13_2).f0) ((rd_T68 l2 x13_2).f1) t402 _ A25.out).mono ?_
         rintro e w32 ⟨rfl, hb⟩
         refine ⟨_, rfl, ?_⟩
         have n0_ := Aside0.mk (Kd.R_below (ra_ HO_8.out) hb)
         have n1_ := Aside0.mk (Kd.S_below (by (with_reducible repeat (first | apply Kd.S_alloc | apply Kd.S_drewN | apply Kd.S_drew)); exact HO_9.out) hb)
         have n2_ := Aside0.mk (Kd.R_below (ra_ HO_10.out) hb)
         have n3_ := Aside0.mk (Kd.R_below (by (with_reducible repeat (first | apply Kd.R_alloc | apply Kd.R_drewN | apply Kd.R_drew)); exact HL399_0.out) hb)
         have n4_ := Aside0.mk (blk_below (g := gb389) (o := .cells #[.int .i64 a0_0, .slice A0_1 l0_1.length c0_1] 29 (0, 0)) (bk_ BK389.out) hb)
         have n5_ := Aside0.mk (blk_below (g := gb398) (o := .cells #[.int .i64 ((rd_T68 l2 x26_1).f0), .int .i64 ((rd_T68 l2 x26_1).f1)] 68 (0, 0)) (bk_ BK398.out) hb)
         have n6_ := Aside0.mk (Kd.C_below (by repeat (first | (with_reducible exact HR399_0.out) | (with_reducible refine Kd.C_alloc ?_ _) | (with_reducible refine Kd.C_drewN ?_ _) | (with_reducible refine Kd.C_drew ?_) | exact HR399_0.out)) hb)
         have n7_ := Aside0.mk (below_step (bl2_ HB.out GE389.out GE398.out) hb)
         clear HO_8
         clear HO_9
         clear HO_10
         clear HL399_0
         clear BK389
         clear BK398
         clear HR399_0
         clear HB
         have HO_8 := n0_
         have HO_9 := n1_
         have HO_10 := n2_
         have HL399_0 := n3_
         have BK389 := n4_
         have BK398 := n5_
         have HR399_0 := n6_
         have HB := n7_
         clear n0_ n1_ n2_ n3_ n4_ n5_ n6_ n7_
         (try clear hb)
         (try clear hb2)
         (try clear hk)
         (try clear hi)
         refine hK.out _ _ ⟨(blk_cell BK398.out 0).trans rfl, (blk_cell BK398.out 1).trans rfl, ((HB.out.cell (World.block_lt_of_cell? w _ hw401_0)).trans hw401_0), ((HB.out.cell (World.block_lt_of_cell? w _ hw401_1)).trans hw401_1)⟩ (fun hHeld => ?_)
         clear hK K
         refine norm_ (a' := ?_) ?_ ?_
         rotate_left
         ·show Act.put _ (some 51) _ = _
          simp only [Act.put, List.setIfInBounds_toArray, List.set_cons_zero, List.set_cons_succ, i64_w, i32_w]
          rfl
         refine puz_ 9 (some 55) #[true,true,true,true,true,true,true,true,true,true] rfl rfl (any_of HT_.out (by kernel_rfl)) ?_
         refine done_ (done_of HT_.out (by kernel_rfl)) ?_
         try go_wp2
         have n0_ := Aside0.mk (Kd.R_drew HO_8.out)
         have n1_ := Aside0.mk (Kd.S_drew HO_9.out)
         have n2_ := Aside0.mk (Kd.R_drew HO_10.out)
         have n3_ := Aside0.mk (Kd.R_drew HL399_0.out)
         have n4_ := Aside0.mk (blk_drew BK389.out)
         have n5_ := Aside0.mk (blk_drew BK398.out)
         have n6_ := Aside0.mk (Kd.C_drew HR399_0.out)
         have n7_ := Aside0.mk (below_drew1 HB.out)
         clear HO_8
         clear HO_9
         clear HO_10
         clear HL399_0
         clear BK389
         clear BK398
         clear HR399_0
         clear HB
         have HO_8 := n0_
         have HO_9 := n1_
         have HO_10 := n2_
         have HL399_0 := n3_
         have BK389 := n4_
         have BK398 := n5_
         have HR399_0 := n6_
         have HB := n7_
         clear n0_ n1_ n2_ n3_ n4_ n5_ n6_ n7_
         obtain ⟨Ao34, co34, eo34⟩ := Kd.R_slice HO_8.out
         (first | subst eo34 | (injection eo34 with f1_ f2_ f3_; have f4_ := f1_.symm; have f5_ := f3_.symm; clear f1_ f2_ f3_; subst f4_; subst f5_))
         have p403 : 0 ≤ (x26_1 : Int) := od_
         have q403 : x26_1 < (t391.length : Int) := od_
         obtain ⟨ad403, e403, hx403_0⟩ := Kd.at_int (Kd.R_reads' HO_8.out).2.2 x26_1 p403 q403
         cases e403
         replace p403 := eq_true p403
         replace q403 := eq_true q403
         have p404 : 0 ≤ (x13_2 : Int) := od_
         have q404 : x13_2 < (t391.length : Int) := od_
         obtain ⟨ad404, e404, hx404_0⟩ := Kd.at_int (Kd.R_reads' HO_8.out).2.2 x13_2 p404 q404
         obtain rfl : ad403 = ad404 := (by injection e404)
         replace p404 := eq_true p404
         replace q404 := eq_true q404
         refine start_ (n := 13) (S := fun w' => w'.cell? (ad403.add (x26_1).toNat) = some (.int .i64 (rd t391 x26_1)) ∧ w'.cell? (ad403.add (x13_2).toNat) = some (.int .i64 (rd t391 x13_2))) (ds := [10, 11]) #[false,false,false,false,false,false,false,false,false,false,false,false,false] (by kernel_rfl) rfl rfl ⟨hx403_0, hx404_0⟩ (fun hHeld => ?_); refine with_tabW impl_ActivePairs.tab13 impl_ActivePairs.bits13 (fun HT_ HW_ => ?_)
         generalize w32.drew = w33 at HO_8 HO_9 HO_10 HL399_0 BK389 BK398 HR399_0 HB hx403_0 hx404_0 hHeld ⊢
         refine puz_ 0 (some 56) #[true,false,false,false,false,false,false,false,false,false,false,false,false] rfl rfl (any_of HT_.out (by kernel_rfl)) ?_
         refine puz_ 1 (some 57) #[true,true,false,false,false,false,false,false,false,false,false,false,false] rfl rfl (any_of HT_.out (by kernel_rfl)) ?_
         refine puz_ 2 (some 58) #[true,true,true,false,false,false,false,false,false,false,false,false,false] rfl rfl (any_of HT_.out (by kernel_rfl)) ?_
         refine puz_ 3 (some 59) #[true,true,true,true,false,false,false,false,false,false,false,false,false] rfl rfl (any_of HT_.out (by kernel_rfl)) ?_
         refine puz_ 5 (some 61) #[true,true,true,true,false,true,false,false,false,false,false,false,false] rfl rfl (any_of HT_.out (by kernel_rfl)) ?_
         refine puz_ 6 (some 62) #[true,true,true,true,false,true,true,false,false,false,false,false,false] rfl rfl (any_of HT_.out (by kernel_rfl)) ?_
         refine puz_ 7 (some 63) #[true,true,true,true,false,true,true,true,false,false,false,false,false] rfl rfl (any_of HT_.out (by kernel_rfl)) ?_
         refine tkz_ 4 (some 60) #[true,true,true,true,true,true,true,true,false,false,false,false,false] rfl rfl (take_ofW HT_.out HW_.out (by kernel_rfl)) hHeld ?_
         refine tkz_ 8 (some 64) #[true,true,true,true,true,true,true,true,true,false,false,false,false] rfl rfl (take_ofW HT_.out HW_.out (by kernel_rfl)) hHeld ?_
         refine puz_ 9 (some 65) #[true,true,true,true,true,true,true,true,true,true,false,false,false] rfl rfl (any_of HT_.out (by kernel_rfl)) ?_
         refine last_ (i := 10) (N := some 66) #[true,true,true,true,true,true,true,true,true,true,true,false,false] rfl rfl (one_of HT_.out (by kernel_rfl)) (by decide) (fun K hK => ?_)
         refine value_ (w1 := ?_) (v := ?_) (by rfl) rfl ?_ ?_
         rotate_left 2
         ·go_simp
          constructor
          ·rfl
          ·rfl
         refine hK.out _ _ ?_
         clear hK K
         refine norm_ (a' := ?_) ?_ ?_
         rotate_left
         ·show Act.put _ (some 66) _ = _
          simp only [Act.put, List.setIfInBounds_toArray, List.set_cons_zero, List.set_cons_succ, i64_w, i32_w]
          rfl
         refine last_ (i := 11) (N := some 67) #[true,true,true,true,true,true,true,true,true,true,true,true,false] rfl rfl (one_of HT_.out (by kernel_rfl)) (by decide) (fun K hK => ?_)
         refine Kd.R_append_step k97 (w0 := w) w.heap.size (by rfl) (.tmp 56) (.tmp 66) 58 97 (.agg #[(.int .i64 0), (.int .i64 0)]) 16 rfl Try.underlying58 info97 rfl (by decide) (by omega) u10 x10_2 (⟨rd t391 x26_1, rd t391 x13_2⟩ : S97) [.int .i64 (rd t391 x26_1), .int .i64 (rd t391 x13_2)] (fun _ => True) (fun _ => False) rfl rfl ?aP (fun _ hk => hk.elim) ?aF ?aO ?aB ?aS ?aL ?_
         (case aP => exact k97_mkM _ _ _ (⟨rd t391 x26_1, rd t391 x13_2⟩ : S97))
         (case aB => exact (bl2_ HB.out GE389.out GE398.out))
         (case aF => exact (fun _ _ => trivial))
         (case aO => exact (ra_ HO_10.out))
         (case aS => exact (below_size (bl2_ HB.out GE389.out GE398.out)))
         (case aL => have := LMc29.out; omega)
         intro v406 w35 ho hb hg hat
         rw [← Ny405.out] at ho
         have n0_ := Aside0.mk (Kd.R_over' (ra_ HO_8.out) (Kd.R_typed (ra_ HO_10.out)) (by decide) hg)
         have n1_ := Aside0.mk (Kd.S_over' (by (with_reducible repeat (first | apply Kd.S_alloc | apply Kd.S_drewN | apply Kd.S_drew)); exact HO_9.out) (Kd.R_typed (ra_ HO_10.out)) (by decide) hg)
         have n2_ := Aside0.mk (blk_grown (g := gb389) (o := .cells #[.int .i64 a0_0, .slice A0_1 l0_1.length c0_1] 29 (0, 0)) (bk_ BK389.out) hg (Kd.R_ne HO_10.out BK389.out (by decide)))
         have n3_ := Aside0.mk (blk_grown (g := gb398) (o := .cells #[.int .i64 ((rd_T68 l2 x26_1).f0), .int .i64 ((rd_T68 l2 x26_1).f1)] 68 (0, 0)) (bk_ BK398.out) hg (Kd.R_ne HO_10.out BK398.out (by decide)))
         have n4_ := Aside0.mk (Kd.R_over' (by (with_reducible repeat (first | apply Kd.R_alloc | apply Kd.R_drewN | apply Kd.R_drew)); exact HL399_0.out) (Kd.R_typed (ra_ HO_10.out)) (by decide) hg)
         have n5_ := Aside0.mk (hb)
         have n6_ := Aside0.mk (ho)
         clear HO_8
         clear HO_9
         clear BK389
         clear BK398
         clear HL399_0
         clear HB
         clear HO_10
         have HO_8 := n0_
         have HO_9 := n1_
         have BK389 := n2_
         have BK398 := n3_
         have HL399_0 := n4_
         have HB := n5_
         have HO407 := n6_
         clear n0_ n1_ n2_ n3_ n4_ n5_ n6_
         clear ho hb hg hat
         refine hK.out _ _ ?_
         clear hK K
         refine norm_ (a' := ?_) ?_ ?_
         rotate_left
         ·show Act.put _ (some 67) _ = _
          simp only [Act.put, List.setIfInBounds_toArray, List.set_cons_zero, List.set_cons_succ, i64_w, i32_w]
          rfl
         refine puz_ 12 (some 10) #[true,true,true,true,true,true,true,true,true,true,true,true,true] rfl rfl (any_of HT_.out (by kernel_rfl)) ?_
         refine done_ (done_of HT_.out (by kernel_rfl)) ?_
         try go_wp2
         go_roundg k2
         case measure => have := HK1.out; have := HK2.out; omega
         case rel => exact ⟨(y405), (wrap64 (x13_2 + 1)), rs_, H', ⟨by have := HK1.out; have := HK2.out; omega⟩, ⟨ra_ HO_8.out⟩, ⟨by (with_reducible repeat (first | apply Kd.S_alloc | apply Kd.S_drewN | apply Kd.S_drew)); exact HO_9.out⟩, ⟨ra_ HO407.out⟩, ⟨bk_ BK389.out⟩, ⟨bk_ BK398.out⟩, ⟨bl2_ HB.out GE389.out GE398.out⟩⟩
        ·rw [if_neg c26] at H
         have c26b0 : (t402 == (wrap64 ((rd (rd_L5 t394 x26_1) x13_2) * (rd (rd_L5 t394 x26_1) x13_2)))) = false := beq_eq_false_iff_ne.mpr c26
         have c26b1 : (t402 != (wrap64 ((rd (rd_L5 t394 x26_1) x13_2) * (rd (rd_L5 t394 x26_1) x13_2)))) = true := bne_iff_ne.mpr c26
         have H' := Aside0.mk H
         clear H
         obtain ⟨Ao36, co36, eo36⟩ := Kd.S_slice HO_9.out
         subst eo36
         have p399 : 0 ≤ (x26_1 : Int) := od_
         have q399 : x26_1 < (t394.length : Int) := od_
         obtain ⟨ad399, A399_0, c399_0, e399, hx399_0, hl399_0, hi399_0⟩ := at_L5 (Kd.S_reads' HO_9.out).2.2 x26_1 p399 q399
         cases e399
         obtain ⟨ce399, hce399, hMe399, hcc399⟩ := Kd.S_get HO_9.out [] x26_1 p399 (by first | exact q399 | exact od_ | (have e_ := (Kd.S_reads' HO_9.out).1; omega))
         obtain ⟨ve399_0, rfl, ge399_0⟩ := hMe399
         have hv399_0 := hcc399 0 _ rfl
         rw [Nat.add_zero, show ((Kd.slice 2 (Kd.int .i64))).sz = 1 from rfl, Nat.mul_one] at hv399_0
         replace hv399_0 := Option.some.inj (hv399_0.symm.trans hx399_0)
         rw [hv399_0] at ge399_0
         have HL399_0 := Aside0.mk (show Kd.R (Kd.int .i64) 2 _ _ _ _ (rd_L5 t394 x26_1) from ge399_0)
         clear hv399_0 ge399_0
         clear hcc399 hce399
         have HR399_0 := Aside0.mk hi399_0
         have HC399_0 := Aside0.mk hl399_0
         clear hi399_0 hl399_0
         replace p399 := eq_true p399
         replace q399 := eq_true q399
         have p400 : 0 ≤ (x13_2 : Int) := od_
         have q400 : x13_2 < ((rd_L5 t394 x26_1).length : Int) := od_
         obtain ⟨ad400, e400, hx400_0⟩ := Kd.at_int (by repeat (first | (with_reducible exact HR399_0.out) | (with_reducible refine Kd.C_alloc ?_ _) | (with_reducible refine Kd.C_drewN ?_ _) | (with_reducible refine Kd.C_drew ?_) | exact HR399_0.out)) x13_2 p400 q400
         cases e400
         replace p400 := eq_true p400
         replace q400 := eq_true q400
         try go_wp2
         have n0_ := Aside0.mk (Kd.R_drew HO_8.out)
         have n1_ := Aside0.mk (Kd.S_drew HO_9.out)
         have n2_ := Aside0.mk (Kd.R_drew HO_10.out)
         have n3_ := Aside0.mk (Kd.R_drew HL399_0.out)
         have n4_ := Aside0.mk (blk_drew BK389.out)
         have n5_ := Aside0.mk (blk_drew BK398.out)
         have n6_ := Aside0.mk (Kd.C_drew HR399_0.out)
         have n7_ := Aside0.mk (below_drew1 HB.out)
         clear HO_8
         clear HO_9
         clear HO_10
         clear HL399_0
         clear BK389
         clear BK398
         clear HR399_0
         clear HB
         have HO_8 := n0_
         have HO_9 := n1_
         have HO_10 := n2_
         have HL399_0 := n3_
         have BK389 := n4_
         have BK398 := n5_
         have HR399_0 := n6_
         have HB := n7_
         clear n0_ n1_ n2_ n3_ n4_ n5_ n6_ n7_
         have p401 : 0 ≤ (x13_2 : Int) := od_
         have q401 : x13_2 < (l2.length : Int) := od_
         obtain ⟨ad401, e401, hx401_0, hx401_1⟩ := at_T68 HR2.out x13_2 p401 q401
         have hw401_1 := hx401_1
         have hw401_0 := hx401_0
         obtain rfl : ad397 = ad401 := (by injection e401)
         replace hx401_0 := (HB.out.cell (World.block_lt_of_cell? w _ hx401_0)).trans hx401_0
         replace hx401_1 := (HB.out.cell (World.block_lt_of_cell? w _ hx401_1)).trans hx401_1
         replace p401 := eq_true p401
         replace q401 := eq_true q401
         refine start_ (n := 10) (S := fun w' => w'.cell? ⟨gb398, 0, none⟩ = some (.int .i64 ((rd_T68 l2 x26_1).f0)) ∧ w'.cell? ⟨gb398, 1, none⟩ = some (.int .i64 ((rd_T68 l2 x26_1).f1)) ∧ w'.cell? (ad397.add ((x13_2).toNat * 2)) = some (.int .i64 ((rd_T68 l2 x13_2).f0)) ∧ w'.cell? ⟨(ad397.add ((x13_2).toNat * 2)).block, (ad397.add ((x13_2).toNat * 2)).off + 1, none⟩ = some (.int .i64 ((rd_T68 l2 x13_2).f1))) (ds := []) #[false,false,false,false,false,false,false,false,false,false] (by kernel_rfl) rfl rfl ⟨(blk_cell BK398.out 0).trans rfl, (blk_cell BK398.out 1).trans rfl, ((HB.out.cell (World.block_lt_of_cell? w _ hw401_0)).trans hw401_0), ((HB.out.cell (World.block_lt_of_cell? w _ hw401_1)).trans hw401_1)⟩ (fun hHeld => ?_); refine with_tabW impl_ActivePairs.tab12 impl_ActivePairs.bits12 (fun HT_ HW_ => ?_)
         generalize wr.drew = w37 at HO_8 HO_9 HO_10 HL399_0 BK389 BK398 HR399_0 HB hx401_0 hx401_1 hHeld ⊢
         refine puz_ 1 (some 47) #[false,true,false,false,false,false,false,false,false,false] rfl rfl (any_of HT_.out (by kernel_rfl)) ?_
         refine puz_ 2 (some 48) #[false,true,true,false,false,false,false,false,false,false] rfl rfl (any_of HT_.out (by kernel_rfl)) ?_
         refine puz_ 3 (some 49) #[false,true,true,true,false,false,false,false,false,false] rfl rfl (any_of HT_.out (by kernel_rfl)) ?_
         refine puz_ 6 (some 52) #[false,true,true,true,false,false,true,false,false,false] rfl rfl (any_of HT_.out (by kernel_rfl)) ?_
         refine puz_ 7 (some 53) #[false,true,true,true,false,false,true,true,false,false] rfl rfl (any_of HT_.out (by kernel_rfl)) ?_
         refine puz_ 8 (some 54) #[false,true,true,true,false,false,true,true,true,false] rfl rfl (any_of HT_.out (by kernel_rfl)) ?_
         refine tkz_ 0 (some 46) #[true,true,true,true,false,false,true,true,true,false] rfl rfl (take_ofW HT_.out HW_.out (by kernel_rfl)) hHeld ?_
         refine tkz_ 4 (some 50) #[true,true,true,true,true,false,true,true,true,false] rfl rfl (take_ofW HT_.out HW_.out (by kernel_rfl)) hHeld ?_
         refine one_ (i := 5) (N := some 51) #[true,true,true,true,true,true,true,true,true,false] rfl rfl (one_of HT_.out (by kernel_rfl)) (by decide) (fun K hK => ?_)
         refine goes_ Try.func82 (by kernel_rfl) rfl #[.agg #[.int .i64 ((rd_T68 l2 x26_1).f0), .int .i64 ((rd_T68 l2 x26_1).f1)], .agg #[.int .i64 ((rd_T68 l2 x13_2).f0), .int .i64 ((rd_T68 l2 x13_2).f1)]] (by rfl) rfl rfl mp_ ?_
         with_reducible refine (impl_Spot_square.calls ((rd_T68 l2 x26_1).f0) ((rd_T68 l2 x26_1).f1) ((rd_T68 l2 x13_2).f0) ((rd_T68 l2 x13_2).f1) t402 _ A25.out).mono ?_
         rintro e w38 ⟨rfl, hb⟩
         refine ⟨_, rfl, ?_⟩
         have n0_ := Aside0.mk (Kd.R_below (ra_ HO_8.out) hb)
         have n1_ := Aside0.mk (Kd.S_below (by (with_reducible repeat (first | apply Kd.S_alloc | apply Kd.S_drewN | apply Kd.S_drew)); exact HO_9.out) hb)
         have n2_ := Aside0.mk (Kd.R_below (ra_ HO_10.out) hb)
         have n3_ := Aside0.mk (Kd.R_below (by (with_reducible repeat (first | apply Kd.R_alloc | apply Kd.R_drewN | apply Kd.R_drew)); exact HL399_0.out) hb)
         have n4_ := Aside0.mk (blk_below (g := gb389) (o := .cells #[.int .i64 a0_0, .slice A0_1 l0_1.length c0_1] 29 (0, 0)) (bk_ BK389.out) hb)
         have n5_ := Aside0.mk (blk_below (g := gb398) (o := .cells #[.int .i64 ((rd_T68 l2 x26_1).f0), .int .i64 ((rd_T68 l2 x26_1).f1)] 68 (0, 0)) (bk_ BK398.out) hb)
         have n6_ := Aside0.mk (Kd.C_below (by repeat (first | (with_reducible exact HR399_0.out) | (with_reducible refine Kd.C_alloc ?_ _) | (with_reducible refine Kd.C_drewN ?_ _) | (with_reducible refine Kd.C_drew ?_) | exact HR399_0.out)) hb)
         have n7_ := Aside0.mk (below_step (bl2_ HB.out GE389.out GE398.out) hb)
         clear HO_8
         clear HO_9
         clear HO_10
         clear HL399_0
         clear BK389
         clear BK398
         clear HR399_0
         clear HB
         have HO_8 := n0_
         have HO_9 := n1_
         have HO_10 := n2_
         have HL399_0 := n3_
         have BK389 := n4_
         have BK398 := n5_
         have HR399_0 := n6_
         have HB := n7_
         clear n0_ n1_ n2_ n3_ n4_ n5_ n6_ n7_
         (try clear hb)
         (try clear hb2)
         (try clear hk)
         (try clear hi)
         refine hK.out _ _ ⟨(blk_cell BK398.out 0).trans rfl, (blk_cell BK398.out 1).trans rfl, ((HB.out.cell (World.block_lt_of_cell? w _ hw401_0)).trans hw401_0), ((HB.out.cell (World.block_lt_of_cell? w _ hw401_1)).trans hw401_1)⟩ (fun hHeld => ?_)
         clear hK K
         refine norm_ (a' := ?_) ?_ ?_
         rotate_left
         ·show Act.put _ (some 51) _ = _
          simp only [Act.put, List.setIfInBounds_toArray, List.set_cons_zero, List.set_cons_succ, i64_w, i32_w]
          rfl
         refine puz_ 9 (some 55) #[true,true,true,true,true,true,true,true,true,true] rfl rfl (any_of HT_.out (by kernel_rfl)) ?_
         refine done_ (done_of HT_.out (by kernel_rfl)) ?_
         try go_wp2
         go_roundg k2
         case measure => have := HK1.out; have := HK2.out; omega
         case rel => exact ⟨(x10_2), (wrap64 (x13_2 + 1)), rs_, H', ⟨by have := HK1.out; have := HK2.out; omega⟩, ⟨ra_ HO_8.out⟩, ⟨by (with_reducible repeat (first | apply Kd.S_alloc | apply Kd.S_drewN | apply Kd.S_drew)); exact HO_9.out⟩, ⟨ra_ HO_10.out⟩, ⟨bk_ BK389.out⟩, ⟨bk_ BK398.out⟩, ⟨bl2_ HB.out GE389.out GE398.out⟩⟩
       ·rw [if_neg c20] at H
        have c20b0 := decide_eq_false c20
        clear c20
        have H' := Aside0.mk H
        clear H
        go_wp2
        go_roundg k2
        case measure => have := HK1.out; have := HK2.out; omega
        case rel => exact ⟨(x10_2), (wrap64 (x26_1 + 1)), rs_, H', ⟨by have := HK1.out; have := HK2.out; omega⟩, ⟨ra_ HO_8.out⟩, ⟨by (with_reducible repeat (first | apply Kd.S_alloc | apply Kd.S_drewN | apply Kd.S_drew)); exact HO_9.out⟩, ⟨ra_ HO_10.out⟩, ⟨bk_ BK389.out⟩, ⟨bl2_ HB.out GE389.out GE398.out⟩⟩
    ·rw [if_neg c14] at H
     have c14b0 := decide_eq_false c14
     clear c14
     simp only [Option.some.injEq, Prod.mk.injEq] at H
     obtain ⟨rfl, rfl⟩ := H
     go_wp2
     go_ret2
     exact ⟨_, re_, ra_ HO_10.out, bl1_ HB.out GE389.out⟩
 ·replace c5 := Bool.eq_false_iff.mpr c5
  subst c5
  have H1 : (some (([] : List (S97)), 1)) = some (r1, r2) := by rw [if_neg (show ¬ (false = true) by decide)] at H; exact H
  clear H
  have H := H1
  clear H1
  simp only [Option.some.injEq, Prod.mk.injEq] at H
  obtain ⟨rfl, rfl⟩ := H
  go_enter Try.func48, Try.ntmps48
  go_wp2_with (first | ((with_reducible refine gate_dst (N := 3) rfl ?_); refine box_event ?hg (N := 3) ?hd (cs := #[.int .i64 a0_0, .slice A0_1 l0_1.length c0_1]) (t := 29) ?hr ?_; (case hd => rfl); (case hg => rfl); (case hr => first | (go_simp; done) | (go_simp; rfl)); intro gb389 hg w39 hbox hb; have n0_ := Aside0.mk (below_step (bl0_ HB.out) hb); have n1_ := Aside0.mk (hbox); have n2_ := Aside0.mk ((by rw [hg]; exact (below_size (bl0_ HB.out)) : w.heap.size ≤ gb389)); have n3_ := Aside0.mk ((by rw [hg]; exact (below_size (bl0_ HB.out)) : w.heap.size ≤ gb389)); clear HB; have HB := n0_; have BK389 := n1_; have GW389 := n2_; have GE389 := n3_; clear n0_ n1_ n2_ n3_; clear hb hbox hg; have hcz40_0 : w39.cell? ⟨gb389, 0, none⟩ = some (.int .i64 a0_0) := (blk_cell BK389.out 0).trans rfl; have hcz40_1 : w39.cell? ⟨gb389, 1, none⟩ = some (.slice A0_1 l0_1.length c0_1) := (blk_cell BK389.out 1).trans rfl; have hfz40_0 := blk_frozen BK389.out 0; have hfz40_1 := blk_frozen BK389.out 1) | ((with_reducible refine gate_callee (f := 39) rfl ?_); refine goesL_ (some 18) rfl rfl Try.func39 (by kernel_rfl) rfl #[.agg #[.int .i64 a0_0, .slice A0_1 l0_1.length c0_1], .int .i64 a1, .slice A2 l2.length c2] rfl mp_ ?_; (with_reducible refine (impl_ValidPacking.calls k a0_0 _ _ l0_1 a1 _ _ l2 false _ ?side1 ?side2 ?side3 ?side4 A4.out).mono ?_); (case side1 => exact ca_ (Kd.C_below HR0_1.out HB.out)); (case side2 => exact HC0_1.out); (case side3 => exact ca_ (Kd.C_below HR2.out HB.out)); (case side4 => exact HC2.out); rintro e w41 ⟨rfl, hb⟩; refine ⟨_, rfl, ?_⟩; have n0_ := Aside0.mk (blk_below (g := gb389) (o := .cells #[.int .i64 a0_0, .slice A0_1 l0_1.length c0_1] 29 (0, 0)) (bk_ BK389.out) hb); have n1_ := Aside0.mk (below_step (bl1_ HB.out GE389.out) hb); clear BK389; clear HB; have BK389 := n0_; have HB := n1_; clear n0_ n1_; (try clear hb); (try clear hb2); (try clear hk); (try clear hi)))
  go_ret2
  exact ⟨_, re_, by first | exact Kd.R_nil _ _ _ _ _ | exact Kd.N_nil _ _ _ _ _ | exact Kd.V_nil _ _ _ _ _ | exact Kd.Q_nil _ _ _ _ _ | exact Kd.S_nil _ _ _ _ _, bl1_ HB.out GE389.out⟩

/-! ### laws_eqPair: function 83 -/
def laws_eqPair.f (a0_0 : Int) (a0_1 : Int) (a1_0 : Int) (a1_1 : Int) : Option (Bool) := if a0_0 = a1_0 then (if a0_1 = a1_1 then (some true) else (some false)) else (some false)
set_option maxHeartbeats 8000000 in
set_option maxRecDepth 100000 in
theorem laws_eqPair.calls (a0_0 : Int) (a0_1 : Int) (a1_0 : Int) (a1_1 : Int) (r : Bool) (w : World) (h : laws_eqPair.f a0_0 a0_1 a1_0 a1_1 = some r) :
  Calls Try.prog 83 #[.agg #[.int .i64 a0_0, .int .i64 a0_1], .agg #[.int .i64 a1_0, .int .i64 a1_1]] w fun e w' => e = .returned (.bool r) ∧ Below w.heap.size w w' := by
 have hu97 := Try.underlying97
 have HB := Aside0.mk (Below.refl w.heap.size w)
 have H : (if a0_0 = a1_0 then (if a0_1 = a1_1 then (some true) else (some false)) else (some false)) = some r := h
 clear h
 by_cases c3 : a0_0 = a1_0
 ·rw [if_pos c3] at H
  have c3b0 : (a0_0 == a1_0) = true := beq_iff_eq.mpr c3
  have c3b1 : (a0_0 != a1_0) = false := bne_eq_false_iff_eq.mpr c3
  clear c3
  by_cases c4 : a0_1 = a1_1
  ·rw [if_pos c4] at H
   have c4b0 : (a0_1 == a1_1) = true := beq_iff_eq.mpr c4
   have c4b1 : (a0_1 != a1_1) = false := bne_eq_false_iff_eq.mpr c4
   clear c4
   obtain rfl := Option.some.inj H
   go_enter Try.func83, Try.ntmps83
   go_wp2_with (first | ((with_reducible refine gate_dst (N := 2) rfl ?_); refine box_event ?hg (N := 2) ?hd (cs := #[.int .i64 a0_0, .int .i64 a0_1]) (t := 97) ?hr ?_; (case hd => rfl); (case hg => rfl); (case hr => first | (go_simp; done) | (go_simp; rfl)); intro gb408 hg w5 hbox hb; have n0_ := Aside0.mk (below_step (bl0_ HB.out) hb); have n1_ := Aside0.mk (hbox); have n2_ := Aside0.mk ((by rw [hg]; exact (below_size (bl0_ HB.out)) : w.heap.size ≤ gb408)); have n3_ := Aside0.mk ((by rw [hg]; exact (below_size (bl0_ HB.out)) : w.heap.size ≤ gb408)); clear HB; have HB := n0_; have BK408 := n1_; have GW408 := n2_; have GE408 := n3_; clear n0_ n1_ n2_ n3_; clear hb hbox hg) | ((with_reducible refine gate_dst (N := 3) rfl ?_); refine box_event ?hg (N := 3) ?hd (cs := #[.int .i64 a1_0, .int .i64 a1_1]) (t := 97) ?hr ?_; (case hd => rfl); (case hg => rfl); (case hr => first | (go_simp; done) | (go_simp; rfl)); intro gb409 hg w6 hbox hb; have n0_ := Aside0.mk (blk_below (g := gb408) (o := .cells #[.int .i64 a0_0, .int .i64 a0_1] 97 (0, 0)) (bk_ BK408.out) hb); have n1_ := Aside0.mk (below_step (bl1_ HB.out GE408.out) hb); have n2_ := Aside0.mk (hbox); have n3_ := Aside0.mk ((by rw [hg]; exact (below_size (bl1_ HB.out GE408.out)) : w.heap.size ≤ gb409)); have n4_ := Aside0.mk ((by rw [hg]; exact (below_size (bl1_ HB.out GE408.out)) : w.heap.size ≤ gb409)); have n5_ := Aside0.mk ((by rw [hg]; exact Nat.ne_of_lt (blk_lt (bk_ BK408.out)) : gb408 ≠ gb409)); have n6_ := Aside0.mk ((by rw [hg]; exact Nat.ne_of_gt (blk_lt (bk_ BK408.out)) : gb409 ≠ gb408)); clear BK408; clear HB; have BK408 := n0_; have HB := n1_; have BK409 := n2_; have GW409 := n3_; have GE409 := n4_; have NB408_409 := n5_; have NB409_408 := n6_; clear n0_ n1_ n2_ n3_ n4_ n5_ n6_; clear hb hbox hg; have hnb7 := NB408_409.out; have hnc7 := NB409_408.out; have hcz8_0 : w6.cell? ⟨gb408, 0, none⟩ = some (.int .i64 a0_0) := (blk_cell BK408.out 0).trans rfl; have hcz8_1 : w6.cell? ⟨gb408, 1, none⟩ = some (.int .i64 a0_1) := (blk_cell BK408.out 1).trans rfl; have hfz8_0 := blk_frozen BK408.out 0; have hfz8_1 := blk_frozen BK408.out 1; have hcz9_0 : w6.cell? ⟨gb409, 0, none⟩ = some (.int .i64 a1_0) := (blk_cell BK409.out 0).trans rfl; have hcz9_1 : w6.cell? ⟨gb409, 1, none⟩ = some (.int .i64 a1_1) := (blk_cell BK409.out 1).trans rfl; have hfz9_0 := blk_frozen BK409.out 0; have hfz9_1 := blk_frozen BK409.out 1))
   go_ret
   exact ⟨re_, bl2_ HB.out GE408.out GE409.out⟩
  ·rw [if_neg c4] at H
   have c4b0 : (a0_1 == a1_1) = false := beq_eq_false_iff_ne.mpr c4
   have c4b1 : (a0_1 != a1_1) = true := bne_iff_ne.mpr c4
   obtain rfl := Option.some.inj H
   go_enter Try.func83, Try.ntmps83
   go_wp2_with (first | ((with_reducible refine gate_dst (N := 2) rfl ?_); refine box_event ?hg (N := 2) ?hd (cs := #[.int .i64 a0_0, .int .i64 a0_1]) (t := 97) ?hr ?_; (case hd => rfl); (case hg => rfl); (case hr => first | (go_simp; done) | (go_simp; rfl)); intro gb408 hg w10 hbox hb; have n0_ := Aside0.mk (below_step (bl0_ HB.out) hb); have n1_ := Aside0.mk (hbox); have n2_ := Aside0.mk ((by rw [hg]; exact (below_size (bl0_ HB.out)) : w.heap.size ≤ gb408)); have n3_ := Aside0.mk ((by rw [hg]; exact (below_size (bl0_ HB.out)) : w.heap.size ≤ gb408)); clear HB; have HB := n0_; have BK408 := n1_; have GW408 := n2_; have GE408 := n3_; clear n0_ n1_ n2_ n3_; clear hb hbox hg) | ((with_reducible refine gate_dst (N := 3) rfl ?_); refine box_event ?hg (N := 3) ?hd (cs := #[.int .i64 a1_0, .int .i64 a1_1]) (t := 97) ?hr ?_; (case hd => rfl); (case hg => rfl); (case hr => first | (go_simp; done) | (go_simp; rfl)); intro gb409 hg w11 hbox hb; have n0_ := Aside0.mk (blk_below (g := gb408) (o := .cells #[.int .i64 a0_0, .int .i64 a0_1] 97 (0, 0)) (bk_ BK408.out) hb); have n1_ := Aside0.mk (below_step (bl1_ HB.out GE408.out) hb); have n2_ := Aside0.mk (hbox); have n3_ := Aside0.mk ((by rw [hg]; exact (below_size (bl1_ HB.out GE408.out)) : w.heap.size ≤ gb409)); have n4_ := Aside0.mk ((by rw [hg]; exact (below_size (bl1_ HB.out GE408.out)) : w.heap.size ≤ gb409)); have n5_ := Aside0.mk ((by rw [hg]; exact Nat.ne_of_lt (blk_lt (bk_ BK408.out)) : gb408 ≠ gb409)); have n6_ := Aside0.mk ((by rw [hg]; exact Nat.ne_of_gt (blk_lt (bk_ BK408.out)) : gb409 ≠ gb408)); clear BK408; clear HB; have BK408 := n0_; have HB := n1_; have BK409 := n2_; have GW409 := n3_; have GE409 := n4_; have NB408_409 := n5_; have NB409_408 := n6_; clear n0_ n1_ n2_ n3_ n4_ n5_ n6_; clear hb hbox hg; have hnb12 := NB408_409.out; have hnc12 := NB409_408.out; have hcz13_0 : w11.cell? ⟨gb408, 0, none⟩ = some (.int .i64 a0_0) := (blk_cell BK408.out 0).trans rfl; have hcz13_1 : w11.cell? ⟨gb408, 1, none⟩ = some (.int .i64 a0_1) := (blk_cell BK408.out 1).trans rfl; have hfz13_0 := blk_frozen BK408.out 0; have hfz13_1 := blk_frozen BK408.out 1; have hcz14_0 : w11.cell? ⟨gb409, 0, none⟩ = some (.int .i64 a1_0) := (blk_cell BK409.out 0).trans rfl; have hcz14_1 : w11.cell? ⟨gb409, 1, none⟩ = some (.int .i64 a1_1) := (blk_cell BK409.out 1).trans rfl; have hfz14_0 := blk_frozen BK409.out 0; have hfz14_1 := blk_frozen BK409.out 1))
   go_ret
   exact ⟨re_, bl2_ HB.out GE408.out GE409.out⟩
 ·rw [if_neg c3] at H
  have c3b0 : (a0_0 == a1_0) = false := beq_eq_false_iff_ne.mpr c3
  have c3b1 : (a0_0 != a1_0) = true := bne_iff_ne.mpr c3
  obtain rfl := Option.some.inj H
  go_enter Try.func83, Try.ntmps83
  go_wp2_with (first | ((with_reducible refine gate_dst (N := 2) rfl ?_); refine box_event ?hg (N := 2) ?hd (cs := #[.int .i64 a0_0, .int .i64 a0_1]) (t := 97) ?hr ?_; (case hd => rfl); (case hg => rfl); (case hr => first | (go_simp; done) | (go_simp; rfl)); intro gb408 hg w15 hbox hb; have n0_ := Aside0.mk (below_step (bl0_ HB.out) hb); have n1_ := Aside0.mk (hbox); have n2_ := Aside0.mk ((by rw [hg]; exact (below_size (bl0_ HB.out)) : w.heap.size ≤ gb408)); have n3_ := Aside0.mk ((by rw [hg]; exact (below_size (bl0_ HB.out)) : w.heap.size ≤ gb408)); clear HB; have HB := n0_; have BK408 := n1_; have GW408 := n2_; have GE408 := n3_; clear n0_ n1_ n2_ n3_; clear hb hbox hg) | ((with_reducible refine gate_dst (N := 3) rfl ?_); refine box_event ?hg (N := 3) ?hd (cs := #[.int .i64 a1_0, .int .i64 a1_1]) (t := 97) ?hr ?_; (case hd => rfl); (case hg => rfl); (case hr => first | (go_simp; done) | (go_simp; rfl)); intro gb409 hg w16 hbox hb; have n0_ := Aside0.mk (blk_below (g := gb408) (o := .cells #[.int .i64 a0_0, .int .i64 a0_1] 97 (0, 0)) (bk_ BK408.out) hb); have n1_ := Aside0.mk (below_step (bl1_ HB.out GE408.out) hb); have n2_ := Aside0.mk (hbox); have n3_ := Aside0.mk ((by rw [hg]; exact (below_size (bl1_ HB.out GE408.out)) : w.heap.size ≤ gb409)); have n4_ := Aside0.mk ((by rw [hg]; exact (below_size (bl1_ HB.out GE408.out)) : w.heap.size ≤ gb409)); have n5_ := Aside0.mk ((by rw [hg]; exact Nat.ne_of_lt (blk_lt (bk_ BK408.out)) : gb408 ≠ gb409)); have n6_ := Aside0.mk ((by rw [hg]; exact Nat.ne_of_gt (blk_lt (bk_ BK408.out)) : gb409 ≠ gb408)); clear BK408; clear HB; have BK408 := n0_; have HB := n1_; have BK409 := n2_; have GW409 := n3_; have GE409 := n4_; have NB408_409 := n5_; have NB409_408 := n6_; clear n0_ n1_ n2_ n3_ n4_ n5_ n6_; clear hb hbox hg; have hnb17 := NB408_409.out; have hnc17 := NB409_408.out; have hcz18_0 : w16.cell? ⟨gb408, 0, none⟩ = some (.int .i64 a0_0) := (blk_cell BK408.out 0).trans rfl; have hcz18_1 : w16.cell? ⟨gb408, 1, none⟩ = some (.int .i64 a0_1) := (blk_cell BK408.out 1).trans rfl; have hfz18_0 := blk_frozen BK408.out 0; have hfz18_1 := blk_frozen BK408.out 1; have hcz19_0 : w16.cell? ⟨gb409, 0, none⟩ = some (.int .i64 a1_0) := (blk_cell BK409.out 0).trans rfl; have hcz19_1 : w16.cell? ⟨gb409, 1, none⟩ = some (.int .i64 a1_1) := (blk_cell BK409.out 1).trans rfl; have hfz19_0 := blk_frozen BK409.out 0; have hfz19_1 := blk_frozen BK409.out 1))
  go_ret
  exact ⟨re_, bl2_ HB.out GE408.out GE409.out⟩

/-! ### laws_eqPairS: function 49 -/
def laws_eqPairS.l0 : Nat → List (S97) → List (S97) → Int → Option (Bool)
 | 0, _, _, _ => none
 | k + 1, x0, x1, x5 => if x5 < (x0.length : Int) then (if 0 ≤ x5 then (if x5 < (x1.length : Int) then ((laws_eqPair.f ((rd_T97 x0 x5).f0) ((rd_T97 x0 x5).f1) ((rd_T97 x1 x5).f0) ((rd_T97 x1 x5).f1)).bind fun t412 => (if t412 = true then (laws_eqPairS.l0 k x0 x1 (wrap64 (x5 + 1))) else (some false))) else (none)) else (none)) else (some true)
def laws_eqPairS.f (k : Nat) (l0 : List (S97)) (l1 : List (S97)) : Option (Bool) := if (l0.length : Int) = (l1.length : Int) then (laws_eqPairS.l0 k l0 l1 0) else (some false)
theorem laws_eqPairS.mono_l : ∀ k, (∀ y0 y1 y2, LeO (laws_eqPairS.l0 k y0 y1 y2) (laws_eqPairS.l0 (k + 1) y0 y1 y2))
 | 0 => fun _ _ _ r h => by simp [laws_eqPairS.l0] at h
 | k + 1 => by
  have ih0 := laws_eqPairS.mono_l k
  ·intro y0 y1 y2
   unfold laws_eqPairS.l0
   repeat' first
   | (with_reducible exact ih0 _ _ _)
   | (with_reducible exact LeO.refl _)
   | (with_reducible exact LeO.none _)
   | (with_reducible refine LeO.ite ?_ ?_)
   | (with_reducible refine LeO.bind ?_ (fun _ => ?_))
theorem laws_eqPairS.mono : ∀ a0 a1 k, LeO (laws_eqPairS.f k a0 a1) (laws_eqPairS.f (k + 1) a0 a1) := by
 intro a0 a1 k
 have ih0 := laws_eqPairS.mono_l k
 unfold laws_eqPairS.f
 repeat' first
   | (with_reducible exact ih0 _ _ _)
   | (with_reducible exact LeO.refl _)
   | (with_reducible exact LeO.none _)
   | (with_reducible refine LeO.ite ?_ ?_)
   | (with_reducible refine LeO.bind ?_ (fun _ => ?_))
def laws_eqPairS.T6 : Bool × List (List Nat × List Nat) := (true, [([], []), ([], []), ([0, 1], [0, 1]), ([2], [2]), ([], []), ([], []), ([4, 5], [4, 5]), ([6], [6]), ([3, 7], [3, 7]), ([8], [8])])
def laws_eqPairS.B6 : List Nat := [0, 0, 3, 7, 0, 0, 48, 112, 255, 511]
theorem laws_eqPairS.tab6 : rtab .any (opsOf Try.f49 6) = laws_eqPairS.T6 := by kernel_rfl
theorem laws_eqPairS.bits6 : waitsOk laws_eqPairS.T6.2 laws_eqPairS.B6 = true := by kernel_rfl
set_option maxHeartbeats 8000000 in
set_option maxRecDepth 100000 in
theorem laws_eqPairS.calls (k : Nat) (A0 : Option Addr) (c0 : Nat) (l0 : List (S97)) (A1 : Option Addr) (c1 : Nat) (l1 : List (S97)) (r : Bool) (w : World) (hr0 : Kd.C k97 w A0 l0.length l0) (hc0 : l0.length ≤ c0) (hr1 : Kd.C k97 w A1 l1.length l1) (hc1 : l1.length ≤ c1) (h : laws_eqPairS.f k l0 l1 = some r) :
  Calls Try.prog 49 #[.slice A0 l0.length c0, .slice A1 l1.length c1] w fun e w' => e = .returned (.bool r) ∧ Below w.heap.size w w' := by
 have hu97 := Try.underlying97
 have HR0 := Aside0.mk hr0
 have HC0 := Aside0.mk hc0
 clear hr0 hc0
 have HR1 := Aside0.mk hr1
 have HC1 := Aside0.mk hc1
 clear hr1 hc1
 have HB := Aside0.mk (Below.refl w.heap.size w)
 have H : (if (l0.length : Int) = (l1.length : Int) then (laws_eqPairS.l0 k l0 l1 0) else (some false)) = some r := h
 clear h
 by_cases c3 : (l0.length : Int) = (l1.length : Int)
 ·rw [if_pos c3] at H
  have c3b0 : ((l0.length : Int) == (l1.length : Int)) = true := beq_iff_eq.mpr c3
  have c3b1 : ((l0.length : Int) != (l1.length : Int)) = false := bne_eq_false_iff_eq.mpr c3
  have c3b2 : (l0.length == l1.length) = true := by first | simpa using c3 | (simp at c3 ⊢; omega)
  clear c3
  have H' := Aside0.mk H
  clear H
  go_enter Try.func49, Try.ntmps49
  go_wp2
  go_loopg [5] k (fun kq v5 w' => ∃ (x5_1 : Int), v5 = .int .i64 x5_1 ∧ Aside0 (laws_eqPairS.l0 kq l0 l1 x5_1 = some r) ∧ Aside0 (kq ≤ k) ∧ Aside0 (Below w.heap.size w w'))
  case atStart => exact ⟨(0), rs_, H', ⟨Nat.le_refl _⟩, ⟨bl0_ HB.out⟩⟩
  case round =>
   clear H'
   try clear c1
   try clear p2
   try clear c3
   try clear c3b0
   try clear c3b1
   try clear c3b2
   obtain ⟨x5_1, rfl, HA, HK1, HB⟩ := hrel
   cases gk with
   | zero => exact absurd HA.out (by simp [laws_eqPairS.l0])
   | succ k1 =>
    have H := HA.out
    clear HA
    simp only [laws_eqPairS.l0] at H
    by_cases c4 : x5_1 < (l0.length : Int)
    ·rw [if_pos c4] at H
     have c4b0 := decide_eq_true c4
     clear c4
     by_cases c5 : 0 ≤ x5_1
     rotate_left
     ·exact nope_ c5 H
     rw [if_pos c5] at H
     have c5b0 := decide_eq_true c5
     clear c5
     by_cases c6 : x5_1 < (l1.length : Int)
     rotate_left
     ·exact nope_ c6 H
     rw [if_pos c6] at H
     have c6b0 := decide_eq_true c6
     clear c6
     replace H := Option.bind_eq_some_iff.mp H
     obtain ⟨t412, A70, H⟩ := H
     replace H : (if t412 = true then (laws_eqPairS.l0 k1 l0 l1 (wrap64 (x5_1 + 1))) else (some false)) = some r := H
     have A7 := Aside0.mk A70
     clear A70
     by_cases c8 : t412 = true
     ·subst c8
      have H1 : (laws_eqPairS.l0 k1 l0 l1 (wrap64 (x5_1 + 1))) = some r := by rw [if_pos rfl] at H; exact H
      clear H
      have H := H1
      clear H1
      have H' := Aside0.mk H
      clear H
      try go_wp2
      have n0_ := Aside0.mk (below_drew1 HB.out)
      clear HB
      have HB := n0_
      clear n0_
      have p410 : 0 ≤ (x5_1 : Int) := od_
      have q410 : x5_1 < (l0.length : Int) := od_
      obtain ⟨ad410, e410, hx410_0, hx410_1⟩ := at_T97 HR0.out x5_1 p410 q410
      have hw410_1 := hx410_1
      have hw410_0 := hx410_0
      cases e410
      replace hx410_0 := (HB.out.cell (World.block_lt_of_cell? w _ hx410_0)).trans hx410_0
      replace hx410_1 := (HB.out.cell (World.block_lt_of_cell? w _ hx410_1)).trans hx410_1
      replace p410 := eq_true p410
      replace q410 := eq_true q410
      have p411 : 0 ≤ (x5_1 : Int) := od_
      have q411 : x5_1 < (l1.length : Int) := od_
      obtain ⟨ad411, e411, hx411_0, hx411_1⟩ := at_T97 HR1.out x5_1 p411 q411
      have hw411_1 := hx411_1
      have hw411_0 := hx411_0
      cases e411
      replace hx411_0 := (HB.out.cell (World.block_lt_of_cell? w _ hx411_0)).trans hx411_0
      replace hx411_1 := (HB.out.cell (World.block_lt_of_cell? w _ hx411_1)).trans hx411_1
      replace p411 := eq_true p411
      replace q411 := eq_true q411
      refine start_ (n := 10) (S := fun w' => w'.cell? (ad410.add ((x5_1).toNat * 2)) = some (.int .i64 ((rd_T97 l0 x5_1).f0)) ∧ w'.cell? ⟨(ad410.add ((x5_1).toNat * 2)).block, (ad410.add ((x5_1).toNat * 2)).off + 1, none⟩ = some (.int .i64 ((rd_T97 l0 x5_1).f1)) ∧ w'.cell? (ad411.add ((x5_1).toNat * 2)) = some (.int .i64 ((rd_T97 l1 x5_1).f0)) ∧ w'.cell? ⟨(ad411.add ((x5_1).toNat * 2)).block, (ad411.add ((x5_1).toNat * 2)).off + 1, none⟩ = some (.int .i64 ((rd_T97 l1 x5_1).f1))) (ds := []) #[false,false,false,false,false,false,false,false,false,false] (by kernel_rfl) rfl rfl ⟨((HB.out.cell (World.block_lt_of_cell? w _ hw410_0)).trans hw410_0), ((HB.out.cell (World.block_lt_of_cell? w _ hw410_1)).trans hw410_1), ((HB.out.cell (World.block_lt_of_cell? w _ hw411_0)).trans hw411_0), ((HB.out.cell (World.block_lt_of_cell? w _ hw411_1)).trans hw411_1)⟩ (fun hHeld => ?_); refine with_tabW laws_eqPairS.tab6 laws_eqPairS.bits6 (fun HT_ HW_ => ?_)
      generalize wr.drew = w9 at HB hx410_0 hx410_1 hx411_0 hx411_1 hHeld ⊢
      refine puz_ 0 (some 17) #[true,false,false,false,false,false,false,false,false,false] rfl rfl (any_of HT_.out (by kernel_rfl)) ?_
      refine puz_ 1 (some 18) #[true,true,false,false,false,false,false,false,false,false] rfl rfl (any_of HT_.out (by kernel_rfl)) ?_
      refine puz_ 2 (some 19) #[true,true,true,false,false,false,false,false,false,false] rfl rfl (any_of HT_.out (by kernel_rfl)) ?_
      refine puz_ 4 (some 21) #[true,true,true,false,true,false,false,false,false,false] rfl rfl (any_of HT_.out (by kernel_rfl)) ?_
      refine puz_ 5 (some 22) #[true,true,true,false,true,true,false,false,false,false] rfl rfl (any_of HT_.out (by kernel_rfl)) ?_
      refine puz_ 6 (some 23) #[true,true,true,false,true,true,true,false,false,false] rfl rfl (any_of HT_.out (by kernel_rfl)) ?_
      refine tkz_ 3 (some 20) #[true,true,true,true,true,true,true,false,false,false] rfl rfl (take_ofW HT_.out HW_.out (by kernel_rfl)) hHeld ?_
      refine tkz_ 7 (some 24) #[true,true,true,true,true,true,true,true,false,false] rfl rfl (take_ofW HT_.out HW_.out (by kernel_rfl)) hHeld ?_
      refine one_ (i := 8) (N := some 25) #[true,true,true,true,true,true,true,true,true,false] rfl rfl (one_of HT_.out (by kernel_rfl)) (by decide) (fun K hK => ?_)
      refine goes_ Try.func83 (by kernel_rfl) rfl #[.agg #[.int .i64 ((rd_T97 l0 x5_1).f0), .int .i64 ((rd_T97 l0 x5_1).f1)], .agg #[.int .i64 ((rd_T97 l1 x5_1).f0), .int .i64 ((rd_T97 l1 x5_1).f1)]] (by rfl) rfl rfl mp_ ?_
      with_reducible refine (laws_eqPair.calls ((rd_T97 l0 x5_1).f0) ((rd_T97 l0 x5_1).f1) ((rd_T97 l1 x5_1).f0) ((rd_T97 l1 x5_1).f1) true _ A7.out).mono ?_
      rintro e w10 ⟨rfl, hb⟩
      refine ⟨_, rfl, ?_⟩
      have n0_ := Aside0.mk (below_step (bl0_ HB.out) hb)
      clear HB
      have HB := n0_
      clear n0_
      (try clear hb)
      (try clear hb2)
      (try clear hk)
      (try clear hi)
      refine hK.out _ _ ⟨((HB.out.cell (World.block_lt_of_cell? w _ hw410_0)).trans hw410_0), ((HB.out.cell (World.block_lt_of_cell? w _ hw410_1)).trans hw410_1), ((HB.out.cell (World.block_lt_of_cell? w _ hw411_0)).trans hw411_0), ((HB.out.cell (World.block_lt_of_cell? w _ hw411_1)).trans hw411_1)⟩ (fun hHeld => ?_)
      clear hK K
      refine norm_ (a' := ?_) ?_ ?_
      rotate_left
      ·show Act.put _ (some 25) _ = _
       simp only [Act.put, List.setIfInBounds_toArray, List.set_cons_zero, List.set_cons_succ, i64_w, i32_w]
       rfl
      refine puz_ 9 (some 26) #[true,true,true,true,true,true,true,true,true,true] rfl rfl (any_of HT_.out (by kernel_rfl)) ?_
      refine done_ (done_of HT_.out (by kernel_rfl)) ?_
      try go_wp2
      go_roundg k1
      case measure => have := HK1.out; omega
      case rel => exact ⟨(wrap64 (x5_1 + 1)), rs_, H', ⟨by have := HK1.out; omega⟩, ⟨bl0_ HB.out⟩⟩
     ·replace c8 := Bool.eq_false_iff.mpr c8
      subst c8
      have H1 : (some false) = some r := by rw [if_neg (show ¬ (false = true) by decide)] at H; exact H
      clear H
      have H := H1
      clear H1
      obtain rfl := Option.some.inj H
      try go_wp2
      have n0_ := Aside0.mk (below_drew1 HB.out)
      clear HB
      have HB := n0_
      clear n0_
      have p410 : 0 ≤ (x5_1 : Int) := od_
      have q410 : x5_1 < (l0.length : Int) := od_
      obtain ⟨ad410, e410, hx410_0, hx410_1⟩ := at_T97 HR0.out x5_1 p410 q410
      have hw410_1 := hx410_1
      have hw410_0 := hx410_0
      cases e410
      replace hx410_0 := (HB.out.cell (World.block_lt_of_cell? w _ hx410_0)).trans hx410_0
      replace hx410_1 := (HB.out.cell (World.block_lt_of_cell? w _ hx410_1)).trans hx410_1
      replace p410 := eq_true p410
      replace q410 := eq_true q410
      have p411 : 0 ≤ (x5_1 : Int) := od_
      have q411 : x5_1 < (l1.length : Int) := od_
      obtain ⟨ad411, e411, hx411_0, hx411_1⟩ := at_T97 HR1.out x5_1 p411 q411
      have hw411_1 := hx411_1
      have hw411_0 := hx411_0
      cases e411
      replace hx411_0 := (HB.out.cell (World.block_lt_of_cell? w _ hx411_0)).trans hx411_0
      replace hx411_1 := (HB.out.cell (World.block_lt_of_cell? w _ hx411_1)).trans hx411_1
      replace p411 := eq_true p411
      replace q411 := eq_true q411
      refine start_ (n := 10) (S := fun w' => w'.cell? (ad410.add ((x5_1).toNat * 2)) = some (.int .i64 ((rd_T97 l0 x5_1).f0)) ∧ w'.cell? ⟨(ad410.add ((x5_1).toNat * 2)).block, (ad410.add ((x5_1).toNat * 2)).off + 1, none⟩ = some (.int .i64 ((rd_T97 l0 x5_1).f1)) ∧ w'.cell? (ad411.add ((x5_1).toNat * 2)) = some (.int .i64 ((rd_T97 l1 x5_1).f0)) ∧ w'.cell? ⟨(ad411.add ((x5_1).toNat * 2)).block, (ad411.add ((x5_1).toNat * 2)).off + 1, none⟩ = some (.int .i64 ((rd_T97 l1 x5_1).f1))) (ds := []) #[false,false,false,false,false,false,false,false,false,false] (by kernel_rfl) rfl rfl ⟨((HB.out.cell (World.block_lt_of_cell? w _ hw410_0)).trans hw410_0), ((HB.out.cell (World.block_lt_of_cell? w _ hw410_1)).trans hw410_1), ((HB.out.cell (World.block_lt_of_cell? w _ hw411_0)).trans hw411_0), ((HB.out.cell (World.block_lt_of_cell? w _ hw411_1)).trans hw411_1)⟩ (fun hHeld => ?_); refine with_tabW laws_eqPairS.tab6 laws_eqPairS.bits6 (fun HT_ HW_ => ?_)
      generalize wr.drew = w11 at HB hx410_0 hx410_1 hx411_0 hx411_1 hHeld ⊢
      refine puz_ 0 (some 17) #[true,false,false,false,false,false,false,false,false,false] rfl rfl (any_of HT_.out (by kernel_rfl)) ?_
      refine puz_ 1 (some 18) #[true,true,false,false,false,false,false,false,false,false] rfl rfl (any_of HT_.out (by kernel_rfl)) ?_
      refine puz_ 2 (some 19) #[true,true,true,false,false,false,false,false,false,false] rfl rfl (any_of HT_.out (by kernel_rfl)) ?_
      refine puz_ 4 (some 21) #[true,true,true,false,true,false,false,false,false,false] rfl rfl (any_of HT_.out (by kernel_rfl)) ?_
      refine puz_ 5 (some 22) #[true,true,true,false,true,true,false,false,false,false] rfl rfl (any_of HT_.out (by kernel_rfl)) ?_
      refine puz_ 6 (some 23) #[true,true,true,false,true,true,true,false,false,false] rfl rfl (any_of HT_.out (by kernel_rfl)) ?_
      refine tkz_ 3 (some 20) #[true,true,true,true,true,true,true,false,false,false] rfl rfl (take_ofW HT_.out HW_.out (by kernel_rfl)) hHeld ?_
      refine tkz_ 7 (some 24) #[true,true,true,true,true,true,true,true,false,false] rfl rfl (take_ofW HT_.out HW_.out (by kernel_rfl)) hHeld ?_
      refine one_ (i := 8) (N := some 25) #[true,true,true,true,true,true,true,true,true,false] rfl rfl (one_of HT_.out (by kernel_rfl)) (by decide) (fun K hK => ?_)
      refine goes_ Try.func83 (by kernel_rfl) rfl #[.agg #[.int .i64 ((rd_T97 l0 x5_1).f0), .int .i64 ((rd_T97 l0 x5_1).f1)], .agg #[.int .i64 ((rd_T97 l1 x5_1).f0), .int .i64 ((rd_T97 l1 x5_1).f1)]] (by rfl) rfl rfl mp_ ?_
      with_reducible refine (laws_eqPair.calls ((rd_T97 l0 x5_1).f0) ((rd_T97 l0 x5_1).f1) ((rd_T97 l1 x5_1).f0) ((rd_T97 l1 x5_1).f1) false _ A7.out).mono ?_
      rintro e w12 ⟨rfl, hb⟩
      refine ⟨_, rfl, ?_⟩
      have n0_ := Aside0.mk (below_step (bl0_ HB.out) hb)
      clear HB
      have HB := n0_
      clear n0_
      (try clear hb)
      (try clear hb2)
      (try clear hk)
      (try clear hi)
      refine hK.out _ _ ⟨((HB.out.cell (World.block_lt_of_cell? w _ hw410_0)).trans hw410_0), ((HB.out.cell (World.block_lt_of_cell? w _ hw410_1)).trans hw410_1), ((HB.out.cell (World.block_lt_of_cell? w _ hw411_0)).trans hw411_0), ((HB.out.cell (World.block_lt_of_cell? w _ hw411_1)).trans hw411_1)⟩ (fun hHeld => ?_)
      clear hK K
      refine norm_ (a' := ?_) ?_ ?_
      rotate_left
      ·show Act.put _ (some 25) _ = _
       simp only [Act.put, List.setIfInBounds_toArray, List.set_cons_zero, List.set_cons_succ, i64_w, i32_w]
       rfl
      refine puz_ 9 (some 26) #[true,true,true,true,true,true,true,true,true,true] rfl rfl (any_of HT_.out (by kernel_rfl)) ?_
      refine done_ (done_of HT_.out (by kernel_rfl)) ?_
      try go_wp2
      go_ret
      exact ⟨re_, bl0_ HB.out⟩
    ·rw [if_neg c4] at H
     have c4b0 := decide_eq_false c4
     clear c4
     obtain rfl := Option.some.inj H
     go_wp2
     go_ret
     exact ⟨re_, bl0_ HB.out⟩
 ·rw [if_neg c3] at H
  have c3b0 : ((l0.length : Int) == (l1.length : Int)) = false := beq_eq_false_iff_ne.mpr c3
  have c3b1 : ((l0.length : Int) != (l1.length : Int)) = true := bne_iff_ne.mpr c3
  have c3b2 : (l0.length == l1.length) = false := by first | simpa using c3 | (simp at c3 ⊢; omega)
  obtain rfl := Option.some.inj H
  go_enter Try.func49, Try.ntmps49
  go_wp2
  go_ret
  exact ⟨re_, bl0_ HB.out⟩

end Go.Proofs.Ytnbhnkpefhdgjaa.I
