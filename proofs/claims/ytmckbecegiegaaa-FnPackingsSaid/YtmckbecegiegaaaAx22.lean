/- For functions of the translation: a Lean function each, and that the call of the Go function comes to its answer. Written by this session's own program (myprint.py, over the kit's printer). -/
import Derived.Test.YtmckbecegiegaaaAx0
import Derived.Test.YtmckbecegiegaaaAx4
import Derived.Test.YtmckbecegiegaaaAx21
--compacted
namespace Go.Proofs.Ytmckbecegiegaaa.A
open Go.RowKit Go.Proofs.YtmckbecegiegaaaW.PrintWords Go.Proofs.YtmckbecegiegaaaW.PrintLast Go.Proofs.YtmckbecegiegaaaW.PrintMore
attribute [local go_sem] max2_int min2_int max_two min_two max_three min_three max_four min_four   -- for this text's walks alone
set_option linter.unusedVariables false
set_option linter.unusedSimpArgs false

/-! ### impl_ActivePairs: function 11 -/
mutual
def impl_ActivePairs.l0 : Nat → List (S37) → List Int → List (List Int) → List (S63) → List (S37) → Int → Int → Option ((List (S63)) × Int)
 | 0, _, _, _, _, _, _, _ => none
 | k + 1, x2, x8, x9, x10, x24, x25, x26 => if x26 < x25 then (if 0 ≤ x26 then (if x26 < (x24.length : Int) then (impl_ActivePairs.l1 k x2 x8 x9 x10 x26 (wrap64 (x26 + 1)) x24 x25 x26 ((rd_T37 x24 x26).f0) ((rd_T37 x24 x26).f1)) else (none)) else (none)) else (some (x10, 0))
def impl_ActivePairs.l1 : Nat → List (S37) → List Int → List (List Int) → List (S63) → Int → Int → List (S37) → Int → Int → Int → Int → Option ((List (S63)) × Int)
 | 0, _, _, _, _, _, _, _, _, _, _, _ => none
 | k + 1, x2, x8, x9, x10, x11, x13, x24, x25, x26, x584000, x584001 => if x13 < (x2.length : Int) then (if 0 ≤ x11 then (if x11 < (x9.length : Int) then (if 0 ≤ x13 then (if x13 < ((rd_L2 x9 x11).length : Int) then ((impl_Spot_square.f x584000 x584001 ((rd_T37 x2 x13).f0) ((rd_T37 x2 x13).f1)).bind fun t587 => (if t587 = (wrap64 ((rd (rd_L2 x9 x11) x13) * (rd (rd_L2 x9 x11) x13))) then (if x11 < (x8.length : Int) then (if x13 < (x8.length : Int) then (if x10.length < 8796093022208 then (impl_ActivePairs.l1 k x2 x8 x9 (x10 ++ [(⟨rd x8 x11, rd x8 x13⟩ : S63)]) x11 (wrap64 (x13 + 1)) x24 x25 x26 x584000 x584001) else (none)) else (none)) else (none)) else (impl_ActivePairs.l1 k x2 x8 x9 x10 x11 (wrap64 (x13 + 1)) x24 x25 x26 x584000 x584001))) else (none)) else (none)) else (none)) else (none)) else (impl_ActivePairs.l0 k x2 x8 x9 x10 x24 x25 (wrap64 (x26 + 1)))
end
def impl_ActivePairs.f (k : Nat) (a0_0 : Int) (l0_1 : List (S75)) (a1 : Int) (l2 : List (S37)) : Option ((List (S63)) × Int) := (impl_ValidPacking.f k a0_0 l0_1 a1 l2).bind fun t575 => (if t575 = true then ((impl_Tree_leaves.f k a0_0 l0_1).bind fun t576 => ((impl_Tree_leafDistances.f k a0_0 l0_1).bind fun t579 => (impl_ActivePairs.l0 k l2 t576 t579 ([] : List (S63)) l2 (l2.length : Int) 0))) else (some (([] : List (S63)), 1)))
theorem impl_ActivePairs.mono_l : ∀ k, (∀ y0 y1 y2 y3 y4 y5 y6, LeO (impl_ActivePairs.l0 k y0 y1 y2 y3 y4 y5 y6) (impl_ActivePairs.l0 (k + 1) y0 y1 y2 y3 y4 y5 y6)) ∧ (∀ y0 y1 y2 y3 y4 y5 y6 y7 y8 y9 y10, LeO (impl_ActivePairs.l1 k y0 y1 y2 y3 y4 y5 y6 y7 y8 y9 y10) (impl_ActivePairs.l1 (k + 1) y0 y1 y2 y3 y4 y5 y6 y7 y8 y9 y10))
 | 0 => ⟨fun _ _ _ _ _ _ _ r h => by simp [impl_ActivePairs.l0] at h, fun _ _ _ _ _ _ _ _ _ _ _ r h => by simp [impl_ActivePairs.l1] at h⟩
 | k + 1 => by
  obtain ⟨ih0, ih1⟩ := impl_ActivePairs.mono_l k
  refine ⟨?_, ?_⟩
  ·intro y0 y1 y2 y3 y4 y5 y6
   unfold impl_ActivePairs.l0
   repeat' first
   | (with_reducible exact ih0 _ _ _ _ _ _ _)
   | (with_reducible exact ih1 _ _ _ _ _ _ _ _ _ _ _)
   | (with_reducible exact impl_Tree_leafDistances.mono _ _ _)
   | (with_reducible exact impl_Tree_leaves.mono _ _ _)
   | (with_reducible exact impl_ValidPacking.mono _ _ _ _ _)
   | (with_reducible exact LeO.refl _)
   | (with_reducible exact LeO.none _)
   | (with_reducible refine LeO.ite ?_ ?_)
   | (with_reducible refine LeO.bind ?_ (fun _ => ?_))
   | exact impl_Tree_leafDistances.mono _ _ _
   | exact impl_Tree_leaves.mono _ _ _
   | exact impl_ValidPacking.mono _ _ _ _ _
   | exact LeO.none _
   | refine LeO.ite ?_ ?_
   | refine LeO.bind ?_ (fun _ => ?_)
  ·intro y0 y1 y2 y3 y4 y5 y6 y7 y8 y9 y10
   unfold impl_ActivePairs.l1
   repeat' first
   | (with_reducible exact ih0 _ _ _ _ _ _ _)
   | (with_reducible exact ih1 _ _ _ _ _ _ _ _ _ _ _)
   | (with_reducible exact impl_Tree_leafDistances.mono _ _ _)
   | (with_reducible exact impl_Tree_leaves.mono _ _ _)
   | (with_reducible exact impl_ValidPacking.mono _ _ _ _ _)
   | (with_reducible exact LeO.refl _)
   | (with_reducible exact LeO.none _)
   | (with_reducible refine LeO.ite ?_ ?_)
   | (with_reducible refine LeO.bind ?_ (fun _ => ?_))
   | exact impl_Tree_leafDistances.mono _ _ _
   | exact impl_Tree_leaves.mono _ _ _
   | exact impl_ValidPacking.mono _ _ _ _ _
   | exact LeO.none _
   | refine LeO.ite ?_ ?_
   | refine LeO.bind ?_ (fun _ => ?_)
theorem impl_ActivePairs.mono : ∀ a0 a1 a2 a3 k, LeO (impl_ActivePairs.f k a0 a1 a2 a3) (impl_ActivePairs.f (k + 1) a0 a1 a2 a3) := by
 intro a0 a1 a2 a3 k
 obtain ⟨ih0, ih1⟩ := impl_ActivePairs.mono_l k
 unfold impl_ActivePairs.f
 repeat' first
   | (with_reducible exact ih0 _ _ _ _ _ _ _)
   | (with_reducible exact ih1 _ _ _ _ _ _ _ _ _ _ _)
   | (with_reducible exact impl_Tree_leafDistances.mono _ _ _)
   | (with_reducible exact impl_Tree_leaves.mono _ _ _)
   | (with_reducible exact impl_ValidPacking.mono _ _ _ _ _)
   | (with_reducible exact LeO.refl _)
   | (with_reducible exact LeO.none _)
   | (with_reducible refine LeO.ite ?_ ?_)
   | (with_reducible refine LeO.bind ?_ (fun _ => ?_))
   | exact impl_Tree_leafDistances.mono _ _ _
   | exact impl_Tree_leaves.mono _ _ _
   | exact impl_ValidPacking.mono _ _ _ _ _
   | exact LeO.none _
   | refine LeO.ite ?_ ?_
   | refine LeO.bind ?_ (fun _ => ?_)
def impl_ActivePairs.T12 : Bool × List (List Nat × List Nat) := (true, [([], []), ([], []), ([], []), ([1, 2], [1, 2]), ([3], [3]), ([0, 4], [0, 4]), ([], []), ([], []), ([6, 7], [6, 7]), ([5, 8], [5, 8])])
def impl_ActivePairs.B12 : List Nat := [0, 0, 0, 6, 14, 31, 0, 0, 192, 511]
theorem impl_ActivePairs.tab12 : rtab .any (opsOf Try.f11 12) = impl_ActivePairs.T12 := by kernel_rfl
theorem impl_ActivePairs.bits12 : waitsOk impl_ActivePairs.T12.2 impl_ActivePairs.B12 = true := by kernel_rfl
def impl_ActivePairs.T13 : Bool × List (List Nat × List Nat) := (true, [([], []), ([], []), ([], []), ([1, 2], [1, 2]), ([3], [3]), ([], []), ([], []), ([5, 6], [5, 6]), ([7], [7]), ([4, 8], [4, 8]), ([9], [9]), ([0, 10], [0, 10]), ([11, 11, 0, 1, 2, 3, 4, 5, 6, 7, 8, 9, 10, 11], [0, 11])])
def impl_ActivePairs.B13 : List Nat := [0, 0, 0, 6, 14, 0, 0, 96, 224, 510, 1022, 2047, 4095]
theorem impl_ActivePairs.tab13 : rtab .any (opsOf Try.f11 13) = impl_ActivePairs.T13 := by kernel_rfl
theorem impl_ActivePairs.bits13 : waitsOk impl_ActivePairs.T13.2 impl_ActivePairs.B13 = true := by kernel_rfl
set_option maxHeartbeats 8000000 in
set_option maxRecDepth 100000 in
theorem impl_ActivePairs.calls (k : Nat) (a0_0 : Int) (A0_1 : Option Addr) (c0_1 : Nat) (l0_1 : List (S75)) (a1 : Int) (A2 : Option Addr) (c2 : Nat) (l2 : List (S37)) (r1 : List (S63)) (r2 : Int) (w : World) (hr0_1 : Kd.C k75 w A0_1 l0_1.length l0_1) (hc0_1 : l0_1.length ≤ c0_1) (hr2 : Kd.C k37 w A2 l2.length l2) (hc2 : l2.length ≤ c2) (h : impl_ActivePairs.f k a0_0 l0_1 a1 l2 = some (r1, r2)) :
  Calls Try.prog 11 #[.agg #[.int .i64 a0_0, .slice A0_1 l0_1.length c0_1], .int .i64 a1, .slice A2 l2.length c2] w fun e w' => ∃ v0_ : Value, e = .returned (.tuple #[v0_, .int .i64 r2]) ∧ Kd.R k63 63 w' w.heap.size (fun _ => True) v0_ r1 ∧ Below w.heap.size w w' := by
 have hu26 := Try.underlying26
 have hu37 := Try.underlying37
 have hu63 := Try.underlying63
 have HR0_1 := Aside0.mk hr0_1
 have HC0_1 := Aside0.mk hc0_1
 clear hr0_1 hc0_1
 have HR2 := Aside0.mk hr2
 have HC2 := Aside0.mk hc2
 clear hr2 hc2
 have HB := Aside0.mk (Below.refl w.heap.size w)
 have H : ((impl_ValidPacking.f k a0_0 l0_1 a1 l2).bind fun t575 => (if t575 = true then ((impl_Tree_leaves.f k a0_0 l0_1).bind fun t576 => ((impl_Tree_leafDistances.f k a0_0 l0_1).bind fun t579 => (impl_ActivePairs.l0 k l2 t576 t579 ([] : List (S63)) l2 (l2.length : Int) 0))) else (some (([] : List (S63)), 1)))) = some (r1, r2) := h
 clear h
 replace H := Option.bind_eq_some_iff.mp H
 obtain ⟨t575, A40, H⟩ := H
 replace H : (if t575 = true then ((impl_Tree_leaves.f k a0_0 l0_1).bind fun t576 => ((impl_Tree_leafDistances.f k a0_0 l0_1).bind fun t579 => (impl_ActivePairs.l0 k l2 t576 t579 ([] : List (S63)) l2 (l2.length : Int) 0))) else (some (([] : List (S63)), 1))) = some (r1, r2) := H
 have A4 := Aside0.mk A40
 clear A40
 by_cases c5 : t575 = true
 ·subst c5
  have H1 : ((impl_Tree_leaves.f k a0_0 l0_1).bind fun t576 => ((impl_Tree_leafDistances.f k a0_0 l0_1).bind fun t579 => (impl_ActivePairs.l0 k l2 t576 t579 ([] : List (S63)) l2 (l2.length : Int) 0))) = some (r1, r2) := by rw [if_pos rfl] at H; exact H
  clear H
  have H := H1
  clear H1
  replace H := Option.bind_eq_some_iff.mp H
  obtain ⟨t576, A60, H⟩ := H
  replace H : ((impl_Tree_leafDistances.f k a0_0 l0_1).bind fun t579 => (impl_ActivePairs.l0 k l2 t576 t579 ([] : List (S63)) l2 (l2.length : Int) 0)) = some (r1, r2) := H
  have A6 := Aside0.mk A60
  clear A60
  replace H := Option.bind_eq_some_iff.mp H
  obtain ⟨t579, A70, H⟩ := H
  replace H : (impl_ActivePairs.l0 k l2 t576 t579 ([] : List (S63)) l2 (l2.length : Int) 0) = some (r1, r2) := H
  have A7 := Aside0.mk A70
  clear A70
  have H' := Aside0.mk H
  clear H
  go_enter Try.func11, Try.ntmps11
  try go_wp2_with (first | ((with_reducible refine gate_dst (N := 3) rfl ?_); refine box_event ?hg (N := 3) ?hd (cs := #[.int .i64 a0_0, .slice A0_1 l0_1.length c0_1]) (t := 26) ?hr ?_; (case hd => rfl); (case hg => rfl); (case hr => first | (go_simp; done) | (go_simp; rfl)); intro gb574 hg w8 hbox hb; have n0_ := Aside0.mk (below_step (bl0_ HB.out) hb); have n1_ := Aside0.mk (hbox); have n2_ := Aside0.mk ((by rw [hg]; exact (below_size (bl0_ HB.out)) : w.heap.size ≤ gb574)); have n3_ := Aside0.mk ((by rw [hg]; exact (below_size (bl0_ HB.out)) : w.heap.size ≤ gb574)); clear HB; have HB := n0_; have BK574 := n1_; have GW574 := n2_; have GE574 := n3_; clear n0_ n1_ n2_ n3_; clear hb hbox hg; obtain ⟨hcz9_0, hcz9_1, hfz9_0, hfz9_1⟩ := cz2_ BK574.out) | ((with_reducible refine gate_callee (f := 10) rfl ?_); refine goesL_ (some 18) rfl rfl Try.func10 (by kernel_rfl) rfl #[.agg #[.int .i64 a0_0, .slice A0_1 l0_1.length c0_1], .int .i64 a1, .slice A2 l2.length c2] rfl mp_ ?_; (with_reducible refine (impl_ValidPacking.calls k a0_0 _ _ l0_1 a1 _ _ l2 true _ ?side1 ?side2 ?side3 ?side4 A4.out).mono ?_); (case side1 => exact ca_ (Kd.C_below HR0_1.out HB.out)); (case side2 => exact HC0_1.out); (case side3 => exact ca_ (Kd.C_below HR2.out HB.out)); (case side4 => exact HC2.out); rintro e w10 ⟨rfl, hb⟩; refine ⟨_, rfl, ?_⟩; have n0_ := Aside0.mk (blk_below (g := gb574) (o := .cells #[.int .i64 a0_0, .slice A0_1 l0_1.length c0_1] 26 (0, 0)) (bk_ BK574.out) hb); have n1_ := Aside0.mk (below_step (bl1_ HB.out GE574.out) hb); clear BK574; clear HB; have BK574 := n0_; have HB := n1_; clear n0_ n1_; (try clear hb); (try clear hb2); (try clear hk); (try clear hi)))
  have n0_ := Aside0.mk (blk_drew BK574.out)
  have n1_ := Aside0.mk (below_drew1 HB.out)
  clear BK574
  clear HB
  have BK574 := n0_
  have HB := n1_
  clear n0_ n1_
  refine start_ (n := 6) (S := fun w' => w'.cell? ⟨gb574, 0, none⟩ = some (.int .i64 a0_0) ∧ w'.cell? ⟨gb574, 1, none⟩ = some (.slice A0_1 l0_1.length c0_1)) (ds := []) #[false,false,false,false,false,false] (by kernel_rfl) rfl rfl ⟨(blk_cell BK574.out 0).trans rfl, (blk_cell BK574.out 1).trans rfl⟩ (fun hHeld => ?_)
  generalize w10.drew = w11 at BK574 HB hHeld ⊢
  refine tkz_ 0 (some 20) #[true,false,false,false,false,false] rfl rfl (by kernel_rfl) hHeld ?_
  refine tkz_ 2 (some 22) #[true,false,true,false,false,false] rfl rfl (by kernel_rfl) hHeld ?_
  refine one_ (i := 1) (N := some 21) #[true,true,true,false,false,false] rfl rfl (by kernel_rfl) (by decide) (fun K hK => ?_)
  refine goes_ Try.func31 (by kernel_rfl) rfl #[.agg #[.int .i64 a0_0, .slice A0_1 l0_1.length c0_1]] (by rfl) rfl rfl mp_ ?_
  with_reducible refine (impl_Tree_leaves.calls k a0_0 _ _ l0_1 t576 _ ?side1 ?side2 A6.out).mono ?_
  (case side1 => exact ca_ (Kd.C_below HR0_1.out HB.out))
  (case side2 => exact HC0_1.out)
  rintro e w12 ⟨v577, rfl, ho0, hb⟩
  refine ⟨_, rfl, ?_⟩
  have n0_ := Aside0.mk (Kd.R_lower ho0 (below_size (bl1_ HB.out GE574.out)))
  have n1_ := Aside0.mk (blk_below (g := gb574) (o := .cells #[.int .i64 a0_0, .slice A0_1 l0_1.length c0_1] 26 (0, 0)) (bk_ BK574.out) hb)
  have n2_ := Aside0.mk (below_step (bl1_ HB.out GE574.out) hb)
  clear BK574
  clear HB
  have HO578 := n0_
  have BK574 := n1_
  have HB := n2_
  clear n0_ n1_ n2_
  (try clear hb)
  (try clear hb2)
  (try clear hk)
  (try clear hi)
  (try clear ho0)
  refine hK.out _ _ ⟨(blk_cell BK574.out 0).trans rfl, (blk_cell BK574.out 1).trans rfl⟩ (fun hHeld => ?_)
  clear hK K
  refine norm_ (a' := ?_) ?_ ?_
  rotate_left
  ·show Act.put _ (some 21) _ = _
   simp only [Act.put, List.setIfInBounds_toArray, List.set_cons_zero, List.set_cons_succ, i64_w, i32_w]
   rfl
  refine one_ (i := 3) (N := some 23) #[true,true,true,true,false,false] rfl rfl (by kernel_rfl) (by decide) (fun K hK => ?_)
  refine goes_ Try.func28 (by kernel_rfl) rfl #[.agg #[.int .i64 a0_0, .slice A0_1 l0_1.length c0_1]] (by rfl) rfl rfl mp_ ?_
  with_reducible refine (impl_Tree_leafDistances.calls k a0_0 _ _ l0_1 t579 _ ?side1 ?side2 A7.out).mono ?_
  (case side1 => exact ca_ (Kd.C_below HR0_1.out HB.out))
  (case side2 => exact HC0_1.out)
  rintro e w13 ⟨v580, rfl, ho0, hb⟩
  refine ⟨_, rfl, ?_⟩
  have n0_ := Aside0.mk (Kd.R_below (ra_ HO578.out) hb)
  have n1_ := Aside0.mk (Kd.S_lower (Kd.S_new' ho0 (Kd.R_lt (ra_ HO578.out))) (below_size (bl1_ HB.out GE574.out)))
  have n2_ := Aside0.mk (blk_below (g := gb574) (o := .cells #[.int .i64 a0_0, .slice A0_1 l0_1.length c0_1] 26 (0, 0)) (bk_ BK574.out) hb)
  have n3_ := Aside0.mk (below_step (bl1_ HB.out GE574.out) hb)
  clear HO578
  clear BK574
  clear HB
  have HO578 := n0_
  have HO581 := n1_
  have BK574 := n2_
  have HB := n3_
  clear n0_ n1_ n2_ n3_
  (try clear hb)
  (try clear hb2)
  (try clear hk)
  (try clear hi)
  (try clear ho0)
  refine hK.out _ _ ⟨(blk_cell BK574.out 0).trans rfl, (blk_cell BK574.out 1).trans rfl⟩ (fun hHeld => ?_)
  clear hK K
  refine norm_ (a' := ?_) ?_ ?_
  rotate_left
  ·show Act.put _ (some 23) _ = _
   simp only [Act.put, List.setIfInBounds_toArray, List.set_cons_zero, List.set_cons_succ, i64_w, i32_w]
   rfl
  refine puz_ 4 (some 8) #[true,true,true,true,true,false] rfl rfl (by kernel_rfl) ?_
  refine puz_ 5 (some 9) #[true,true,true,true,true,true] rfl rfl (by kernel_rfl) ?_
  refine done_ (by kernel_rfl) ?_
  try go_wp2
  go_loopg [10, 26] k (fun kq v10 v26 w' => ∃ (x10_1 : List (S63)) (x26_1 : Int), v26 = .int .i64 x26_1 ∧ Aside0 (impl_ActivePairs.l0 kq l2 t576 t579 x10_1 l2 (l2.length : Int) x26_1 = some (r1, r2)) ∧ Aside0 (kq ≤ k) ∧ Aside0 (Kd.R (Kd.int .i64) 2 w' w.heap.size (fun _ => True) v577 t576) ∧ Aside0 (Kd.S (Kd.slice 2 (Kd.int .i64)) 59 w' w.heap.size (fun k_ => some k_ ≠ (v577 : Value).ownBlock) v580 t579) ∧ Aside0 (Kd.R k63 63 w' w.heap.size (fun _ => True) v10 x10_1) ∧ Aside0 (w'.heap[gb574]? = some (.cells #[.int .i64 a0_0, (.slice A0_1 l0_1.length c0_1)] 26 (0, 0))) ∧ Aside0 (Below w.heap.size w w'))
  case atStart => exact ⟨(([] : List (S63))), (0), rs_, H', ⟨Nat.le_refl _⟩, ⟨ra_ HO578.out⟩, ⟨by (with_reducible repeat (first | apply Kd.S_alloc | apply Kd.S_drewN | apply Kd.S_drew)); exact Kd.S_mono HO581.out (fun _ hk => hk.2)⟩, ⟨by first | exact Kd.R_nil _ _ _ _ _ | exact Kd.N_nil _ _ _ _ _ | exact Kd.V_nil _ _ _ _ _ | exact Kd.Q_nil _ _ _ _ _ | exact Kd.S_nil _ _ _ _ _⟩, ⟨bk_ BK574.out⟩, ⟨bl1_ HB.out GE574.out⟩⟩
  case round =>
   clear H'
   try clear c1
   try clear c2
   try clear p2
   try clear c3
   try clear c5
   try clear c10
   try clear c11
   try clear hcz9_0
   try clear hcz9_1
   try clear hfz9_0
   try clear hfz9_1
   obtain ⟨x10_1, x26_1, rfl, HA, HK1, HO_8, HO_9, HO_10, BK574, HB⟩ := hrel
   cases gk with
   | zero => exact absurd HA.out (by simp [impl_ActivePairs.l0])
   | succ k1 =>
    have H := HA.out
    clear HA
    simp only [impl_ActivePairs.l0] at H
    by_cases c14 : x26_1 < (l2.length : Int)
    ·rw [if_pos c14] at H
     have c14b0 := decide_eq_true c14
     clear c14
     by_cases c15 : 0 ≤ x26_1
     rotate_left
     ·exact nope_ c15 H
     rw [if_pos c15] at H
     have c15b0 := decide_eq_true c15
     clear c15
     by_cases c16 : x26_1 < (l2.length : Int)
     rotate_left
     ·exact nope_ c16 H
     rw [if_pos c16] at H
     have c16b0 := decide_eq_true c16
     clear c16
     have H' := Aside0.mk H
     clear H
     have p582 : 0 ≤ (x26_1 : Int) := od_
     have q582 : x26_1 < (l2.length : Int) := od_
     obtain ⟨ad582, e582, hx582_0, hx582_1⟩ := at_T37 HR2.out x26_1 p582 q582
     cases e582
     replace hx582_0 := (HB.out.cell (World.block_lt_of_cell? w _ hx582_0)).trans hx582_0
     replace hx582_1 := (HB.out.cell (World.block_lt_of_cell? w _ hx582_1)).trans hx582_1
     replace p582 := eq_true p582
     replace q582 := eq_true q582
     go_wp2_with (first | ((with_reducible refine gate_dst (N := 12) rfl ?_); refine box_event ?hg (N := 12) ?hd (cs := #[.int .i64 0, .int .i64 0]) (t := 37) ?hr ?_; (case hd => rfl); (case hg => rfl); (case hr => first | (go_simp; done) | (go_simp; rfl)); intro gb583 hg w17 hbox hb; have n0_ := Aside0.mk (Kd.R_below (ra_ HO_8.out) hb); have n1_ := Aside0.mk (Kd.S_below (by (with_reducible repeat (first | apply Kd.S_alloc | apply Kd.S_drewN | apply Kd.S_drew)); exact HO_9.out) hb); have n2_ := Aside0.mk (Kd.R_below (ra_ HO_10.out) hb); have n3_ := Aside0.mk (blk_below (g := gb574) (o := .cells #[.int .i64 a0_0, .slice A0_1 l0_1.length c0_1] 26 (0, 0)) (bk_ BK574.out) hb); have n4_ := Aside0.mk (below_step (bl1_ HB.out GE574.out) hb); have n5_ := Aside0.mk (hbox); have n6_ := Aside0.mk ((by rw [hg]; exact (below_size (bl1_ HB.out GE574.out)) : w.heap.size ≤ gb583)); have n7_ := Aside0.mk ((by rw [hg]; exact (below_size (bl1_ HB.out GE574.out)) : w.heap.size ≤ gb583)); have n8_ := Aside0.mk ((by rw [hg]; exact Nat.ne_of_lt (blk_lt (bk_ BK574.out)) : gb574 ≠ gb583)); have n9_ := Aside0.mk ((by rw [hg]; exact Nat.ne_of_gt (blk_lt (bk_ BK574.out)) : gb583 ≠ gb574)); clear HO_8; clear HO_9; clear HO_10; clear BK574; clear HB; have HO_8 := n0_; have HO_9 := n1_; have HO_10 := n2_; have BK574 := n3_; have HB := n4_; have BK583 := n5_; have GW583 := n6_; have GE583 := n7_; have NB574_583 := n8_; have NB583_574 := n9_; clear n0_ n1_ n2_ n3_ n4_ n5_ n6_ n7_ n8_ n9_; clear hb hbox hg; have hnb18 := NB583_574.out; have hnc18 := NB574_583.out; obtain ⟨hcz19_0, hcz19_1, hfz19_0, hfz19_1⟩ := cz2_ BK583.out))
     go_loopg [10, 13] k1 (fun kq v10 v13 w' => ∃ (x10_2 : List (S63)) (x13_2 : Int), v13 = .int .i64 x13_2 ∧ Aside0 (impl_ActivePairs.l1 kq l2 t576 t579 x10_2 x26_1 x13_2 l2 (l2.length : Int) x26_1 ((rd_T37 l2 x26_1).f0) ((rd_T37 l2 x26_1).f1) = some (r1, r2)) ∧ Aside0 (kq ≤ k1) ∧ Aside0 (Kd.R (Kd.int .i64) 2 w' w.heap.size (fun _ => True) v577 t576) ∧ Aside0 (Kd.S (Kd.slice 2 (Kd.int .i64)) 59 w' w.heap.size (fun k_ => some k_ ≠ (v577 : Value).ownBlock) v580 t579) ∧ Aside0 (Kd.R k63 63 w' w.heap.size (fun _ => True) v10 x10_2) ∧ Aside0 (w'.heap[gb574]? = some (.cells #[.int .i64 a0_0, (.slice A0_1 l0_1.length c0_1)] 26 (0, 0))) ∧ Aside0 (w'.heap[gb583]? = some (.cells #[.int .i64 ((rd_T37 l2 x26_1).f0), .int .i64 ((rd_T37 l2 x26_1).f1)] 37 (0, 0))) ∧ Aside0 (Below w.heap.size w w'))
     case atStart => exact ⟨(x10_1), (wrap64 (x26_1 + 1)), rs_, H', ⟨Nat.le_refl _⟩, ⟨by (with_reducible repeat (first | apply Kd.R_alloc | apply Kd.R_drewN | apply Kd.R_drew)); exact Kd.R_mono (Kd.R_far (p := ⟨gb583, 1, none⟩) (Kd.R_far (p := ⟨gb583, 0, none⟩) (Kd.R_types HO_8.out BK583.out (by decide)) (fun _ hk => hk.2) (.int .i64 ((rd_T37 l2 x26_1).f0))) (fun _ hk => hk.2) (.int .i64 ((rd_T37 l2 x26_1).f1))) (fun _ hk => trivial)⟩, ⟨by (with_reducible repeat (first | apply Kd.S_alloc | apply Kd.S_drewN | apply Kd.S_drew)); exact Kd.S_mono (Kd.S_far (p := ⟨gb583, 1, none⟩) (Kd.S_far (p := ⟨gb583, 0, none⟩) (Kd.S_types HO_9.out BK583.out (by decide)) (fun _ hk => hk.2) (.int .i64 ((rd_T37 l2 x26_1).f0))) (fun _ hk => hk.2) (.int .i64 ((rd_T37 l2 x26_1).f1))) (fun _ hk => hk.1)⟩, ⟨by (with_reducible repeat (first | apply Kd.R_alloc | apply Kd.R_drewN | apply Kd.R_drew)); exact Kd.R_mono (Kd.R_far (p := ⟨gb583, 1, none⟩) (Kd.R_far (p := ⟨gb583, 0, none⟩) (Kd.R_types HO_10.out BK583.out (by decide)) (fun _ hk => hk.2) (.int .i64 ((rd_T37 l2 x26_1).f0))) (fun _ hk => hk.2) (.int .i64 ((rd_T37 l2 x26_1).f1))) (fun _ hk => trivial)⟩, ⟨by (with_reducible repeat (first | refine blk_drewN ?_ _ | refine blk_drew ?_ | refine blk_alloc ?_ _)); refine blk_far ?_ NB574_583.out _; (with_reducible repeat (first | refine blk_drewN ?_ _ | refine blk_drew ?_ | refine blk_alloc ?_ _)); refine blk_far ?_ NB574_583.out _; (with_reducible repeat (first | refine blk_drewN ?_ _ | refine blk_drew ?_ | refine blk_alloc ?_ _)); exact BK574.out⟩, ⟨by (with_reducible repeat (first | refine blk_drewN ?_ _ | refine blk_drew ?_ | refine blk_alloc ?_ _)); refine blk_put (cs := #[.int .i64 ((rd_T37 l2 x26_1).f0), .int .i64 0]) ?_ 1 _ rfl; (with_reducible repeat (first | refine blk_drewN ?_ _ | refine blk_drew ?_ | refine blk_alloc ?_ _)); refine blk_put (cs := #[.int .i64 0, .int .i64 0]) ?_ 0 _ rfl; (with_reducible repeat (first | refine blk_drewN ?_ _ | refine blk_drew ?_ | refine blk_alloc ?_ _)); exact BK583.out⟩, ⟨bl2_ HB.out GE574.out GE583.out⟩⟩
     case round =>
      clear H'
      try clear c1
      try clear c2
      try clear p2
      try clear c3
      try clear c5
      try clear p5
      try clear q5
      try clear hx5
      try clear p6
      try clear c10
      try clear c11
      try clear c14
      try clear c14b0
      try clear c15
      try clear c15b0
      try clear c16
      try clear c16b0
      try clear c18
      try clear hcz19_0
      try clear hcz19_1
      try clear hcz9_0
      try clear hcz9_1
      try clear hfz19_0
      try clear hfz19_1
      try clear hfz9_0
      try clear hfz9_1
      try clear hx582_0
      try clear hx582_1
      try clear p2
      try clear p582
      try clear q582
      obtain ⟨x10_2, x13_2, rfl, HA, HK2, HO_8, HO_9, HO_10, BK574, BK583, HB⟩ := hrel
      cases gk with
      | zero => exact absurd HA.out (by simp [impl_ActivePairs.l1])
      | succ k2 =>
       have H := HA.out
       clear HA
       simp only [impl_ActivePairs.l1] at H
       by_cases c20 : x13_2 < (l2.length : Int)
       ·rw [if_pos c20] at H
        have c20b0 := decide_eq_true c20
        clear c20
        by_cases c21 : 0 ≤ x26_1
        rotate_left
        ·exact nope_ c21 H
        rw [if_pos c21] at H
        have c21b0 := decide_eq_true c21
        clear c21
        by_cases c22 : x26_1 < (t579.length : Int)
        rotate_left
        ·exact nope_ c22 H
        rw [if_pos c22] at H
        have c22b0 := decide_eq_true c22
        clear c22
        by_cases c23 : 0 ≤ x13_2
        rotate_left
        ·exact nope_ c23 H
        rw [if_pos c23] at H
        have c23b0 := decide_eq_true c23
        clear c23
        by_cases c24 : x13_2 < ((rd_L2 t579 x26_1).length : Int)
        rotate_left
        ·exact nope_ c24 H
        rw [if_pos c24] at H
        have c24b0 := decide_eq_true c24
        clear c24
        replace H := Option.bind_eq_some_iff.mp H
        obtain ⟨t587, A250, H⟩ := H
        replace H : (if t587 = (wrap64 ((rd (rd_L2 t579 x26_1) x13_2) * (rd (rd_L2 t579 x26_1) x13_2))) then (if x26_1 < (t576.length : Int) then (if x13_2 < (t576.length : Int) then (if x10_2.length < 8796093022208 then (impl_ActivePairs.l1 k2 l2 t576 t579 (x10_2 ++ [(⟨rd t576 x26_1, rd t576 x13_2⟩ : S63)]) x26_1 (wrap64 (x13_2 + 1)) l2 (l2.length : Int) x26_1 ((rd_T37 l2 x26_1).f0) ((rd_T37 l2 x26_1).f1)) else (none)) else (none)) else (none)) else (impl_ActivePairs.l1 k2 l2 t576 t579 x10_2 x26_1 (wrap64 (x13_2 + 1)) l2 (l2.length : Int) x26_1 ((rd_T37 l2 x26_1).f0) ((rd_T37 l2 x26_1).f1))) = some (r1, r2) := H
        have A25 := Aside0.mk A250
        clear A250
        by_cases c26 : t587 = (wrap64 ((rd (rd_L2 t579 x26_1) x13_2) * (rd (rd_L2 t579 x26_1) x13_2)))
        ·rw [if_pos c26] at H
         have c26b0 : (t587 == (wrap64 ((rd (rd_L2 t579 x26_1) x13_2) * (rd (rd_L2 t579 x26_1) x13_2)))) = true := beq_iff_eq.mpr c26
         have c26b1 : (t587 != (wrap64 ((rd (rd_L2 t579 x26_1) x13_2) * (rd (rd_L2 t579 x26_1) x13_2)))) = false := bne_eq_false_iff_eq.mpr c26
         clear c26
         by_cases c27 : x26_1 < (t576.length : Int)
         rotate_left
         ·exact nope_ c27 H
         rw [if_pos c27] at H
         have c27b0 := decide_eq_true c27
         clear c27
         by_cases c28 : x13_2 < (t576.length : Int)
         rotate_left
         ·exact nope_ c28 H
         rw [if_pos c28] at H
         have c28b0 := decide_eq_true c28
         clear c28
         by_cases c29 : x10_2.length < 8796093022208
         rotate_left
         ·exact nope_ c29 H
         rw [if_pos c29] at H
         have LMc29 := Aside0.mk c29
         clear c29
         obtain ⟨y590, hy590⟩ : ∃ y_ : List (S63), y_ = (x10_2 ++ [(⟨rd t576 x26_1, rd t576 x13_2⟩ : S63)]) := ⟨_, rfl⟩
         replace H : (impl_ActivePairs.l1 k2 l2 t576 t579 y590 x26_1 (wrap64 (x13_2 + 1)) l2 (l2.length : Int) x26_1 ((rd_T37 l2 x26_1).f0) ((rd_T37 l2 x26_1).f1)) = some (r1, r2) := yh_ H hy590
         have Ny590 := Aside0.mk hy590
         clear hy590
         have H' := Aside0.mk H
         clear H
         obtain ⟨Ao30, co30, eo30⟩ := Kd.S_slice HO_9.out
         subst eo30
         have p584 : 0 ≤ (x26_1 : Int) := od_
         have q584 : x26_1 < (t579.length : Int) := od_
         obtain ⟨ad584, A584_0, c584_0, e584, hx584_0, hl584_0, hi584_0⟩ := at_L2 (Kd.S_reads' HO_9.out).2.2 x26_1 p584 q584
         cases e584
         obtain ⟨ce584, hce584, hMe584, hcc584⟩ := Kd.S_get HO_9.out [] x26_1 p584 (by first | exact q584 | exact od_ | (have e_ := (Kd.S_reads' HO_9.out).1; omega))
         obtain ⟨ve584_0, rfl, ge584_0⟩ := hMe584
         have hv584_0 := hcc584 0 _ rfl
         rw [Nat.add_zero, show ((Kd.slice 2 (Kd.int .i64))).sz = 1 from rfl, Nat.mul_one] at hv584_0
         replace hv584_0 := Option.some.inj (hv584_0.symm.trans hx584_0)
         rw [hv584_0] at ge584_0
         have HL584_0 := Aside0.mk (show Kd.R (Kd.int .i64) 2 _ _ _ _ (rd_L2 t579 x26_1) from ge584_0)
         clear hv584_0 ge584_0
         clear hcc584 hce584
         have HR584_0 := Aside0.mk hi584_0
         have HC584_0 := Aside0.mk hl584_0
         clear hi584_0 hl584_0
         replace p584 := eq_true p584
         replace q584 := eq_true q584
         have p585 : 0 ≤ (x13_2 : Int) := od_
         have q585 : x13_2 < ((rd_L2 t579 x26_1).length : Int) := od_
         obtain ⟨ad585, e585, hx585_0⟩ := Kd.at_int (by repeat (first | (with_reducible exact HR584_0.out) | (with_reducible refine Kd.C_alloc ?_ _) | (with_reducible refine Kd.C_drewN ?_ _) | (with_reducible refine Kd.C_drew ?_) | exact HR584_0.out)) x13_2 p585 q585
         cases e585
         replace p585 := eq_true p585
         replace q585 := eq_true q585
         try go_wp2
         have n0_ := Aside0.mk (Kd.R_drew HO_8.out)
         have n1_ := Aside0.mk (Kd.S_drew HO_9.out)
         have n2_ := Aside0.mk (Kd.R_drew HO_10.out)
         have n3_ := Aside0.mk (Kd.R_drew HL584_0.out)
         have n4_ := Aside0.mk (blk_drew BK574.out)
         have n5_ := Aside0.mk (blk_drew BK583.out)
         have n6_ := Aside0.mk (Kd.C_drew HR584_0.out)
         have n7_ := Aside0.mk (below_drew1 HB.out)
         clear HO_8
         clear HO_9
         clear HO_10
         clear HL584_0
         clear BK574
         clear BK583
         clear HR584_0
         clear HB
         have HO_8 := n0_
         have HO_9 := n1_
         have HO_10 := n2_
         have HL584_0 := n3_
         have BK574 := n4_
         have BK583 := n5_
         have HR584_0 := n6_
         have HB := n7_
         clear n0_ n1_ n2_ n3_ n4_ n5_ n6_ n7_
         have p586 : 0 ≤ (x13_2 : Int) := od_
         have q586 : x13_2 < (l2.length : Int) := od_
         obtain ⟨ad586, e586, hx586_0, hx586_1⟩ := at_T37 HR2.out x13_2 p586 q586
         have hw586_1 := hx586_1
         have hw586_0 := hx586_0
         obtain rfl : ad582 = ad586 := (by injection e586)
         replace hx586_0 := (HB.out.cell (World.block_lt_of_cell? w _ hx586_0)).trans hx586_0
         replace hx586_1 := (HB.out.cell (World.block_lt_of_cell? w _ hx586_1)).trans hx586_1
         replace p586 := eq_true p586
         replace q586 := eq_true q586
         refine start_ (n := 10) (S := fun w' => w'.cell? ⟨gb583, 0, none⟩ = some (.int .i64 ((rd_T37 l2 x26_1).f0)) ∧ w'.cell? ⟨gb583, 1, none⟩ = some (.int .i64 ((rd_T37 l2 x26_1).f1)) ∧ w'.cell? (ad582.add ((x13_2).toNat * 2)) = some (.int .i64 ((rd_T37 l2 x13_2).f0)) ∧ w'.cell? ⟨(ad582.add ((x13_2).toNat * 2)).block, (ad582.add ((x13_2).toNat * 2)).off + 1, none⟩ = some (.int .i64 ((rd_T37 l2 x13_2).f1))) (ds := []) (nb_ 10 0) (by kernel_rfl) rfl rfl ⟨(blk_cell BK583.out 0).trans rfl, (blk_cell BK583.out 1).trans rfl, ((HB.out.cell (World.block_lt_of_cell? w _ hw586_0)).trans hw586_0), ((HB.out.cell (World.block_lt_of_cell? w _ hw586_1)).trans hw586_1)⟩ (fun hHeld => ?_); refine with_tabW impl_ActivePairs.tab12 impl_ActivePairs.bits12 (fun HT_ HW_ => ?_)
         generalize wr.drew = w31 at HO_8 HO_9 HO_10 HL584_0 BK574 BK583 HR584_0 HB hx586_0 hx586_1 hHeld ⊢
         refine puz_ 1 (some 47) (nb_ 10 2) rfl rfl (any_of HT_.out (by kernel_rfl)) ?_
         refine puz_ 2 (some 48) (nb_ 10 6) rfl rfl (any_of HT_.out (by kernel_rfl)) ?_
         refine puz_ 3 (some 49) (nb_ 10 14) rfl rfl (any_of HT_.out (by kernel_rfl)) ?_
         refine puz_ 6 (some 52) (nb_ 10 78) rfl rfl (any_of HT_.out (by kernel_rfl)) ?_
         refine puz_ 7 (some 53) (nb_ 10 206) rfl rfl (any_of HT_.out (by kernel_rfl)) ?_
         refine puz_ 8 (some 54) (nb_ 10 462) rfl rfl (any_of HT_.out (by kernel_rfl)) ?_
         refine tkz_ 0 (some 46) (nb_ 10 463) rfl rfl (take_ofW HT_.out HW_.out (by kernel_rfl)) hHeld ?_
         refine tkz_ 4 (some 50) (nb_ 10 479) rfl rfl (take_ofW HT_.out HW_.out (by kernel_rfl)) hHeld ?_
         refine one_ (i := 5) (N := some 51) (nb_ 10 511) rfl rfl (one_of HT_.out (by kernel_rfl)) (by decide) (fun K hK => ?_)
         refine goes_ Try.func32 (by kernel_rfl) rfl #[.agg #[.int .i64 ((rd_T37 l2 x26_1).f0), .int .i64 ((rd_T37 l2 x26_1).f1)], .agg #[.int .i64 ((rd_T37 l2 x13_2).f0), .int .i64 ((rd_T37 l2 x13_2).f1)]] (by rfl) rfl rfl mp_ ?_
         with_reducible refine (impl_Spot_square.calls ((rd_T37 l2 x26_1).f0) ((rd_T37 l2 x26_1).f1) ((rd_T37 l2 x13_2).f0) ((rd_T37 l2 x13_2).f1) t587 _ A25.out).mono ?_
         rintro e w32 ⟨rfl, hb⟩
         refine ⟨_, rfl, ?_⟩
         have n0_ := Aside0.mk (Kd.R_below (ra_ HO_8.out) hb)
         have n1_ := Aside0.mk (Kd.S_below (by (with_reducible repeat (first | apply Kd.S_alloc | apply Kd.S_drewN | apply Kd.S_drew)); exact HO_9.out) hb)
         have n2_ := Aside0.mk (Kd.R_below (ra_ HO_10.out) hb)
         have n3_ := Aside0.mk (Kd.R_below (by (with_reducible repeat (first | apply Kd.R_alloc | apply Kd.R_drewN | apply Kd.R_drew)); exact HL584_0.out) hb)
         have n4_ := Aside0.mk (blk_below (g := gb574) (o := .cells #[.int .i64 a0_0, .slice A0_1 l0_1.length c0_1] 26 (0, 0)) (bk_ BK574.out) hb)
         have n5_ := Aside0.mk (blk_below (g := gb583) (o := .cells #[.int .i64 ((rd_T37 l2 x26_1).f0), .int .i64 ((rd_T37 l2 x26_1).f1)] 37 (0, 0)) (bk_ BK583.out) hb)
         have n6_ := Aside0.mk (Kd.C_below (by repeat (first | (with_reducible exact HR584_0.out) | (with_reducible refine Kd.C_alloc ?_ _) | (with_reducible refine Kd.C_drewN ?_ _) | (with_reducible refine Kd.C_drew ?_) | exact HR584_0.out)) hb)
         have n7_ := Aside0.mk (below_step (bl2_ HB.out GE574.out GE583.out) hb)
         clear HO_8
         clear HO_9
         clear HO_10
         clear HL584_0
         clear BK574
         clear BK583
         clear HR584_0
         clear HB
         have HO_8 := n0_
         have HO_9 := n1_
         have HO_10 := n2_
         have HL584_0 := n3_
         have BK574 := n4_
         have BK583 := n5_
         have HR584_0 := n6_
         have HB := n7_
         clear n0_ n1_ n2_ n3_ n4_ n5_ n6_ n7_
         (try clear hb)
         (try clear hb2)
         (try clear hk)
         (try clear hi)
         refine hK.out _ _ ⟨(blk_cell BK583.out 0).trans rfl, (blk_cell BK583.out 1).trans rfl, ((HB.out.cell (World.block_lt_of_cell? w _ hw586_0)).trans hw586_0), ((HB.out.cell (World.block_lt_of_cell? w _ hw586_1)).trans hw586_1)⟩ (fun hHeld => ?_)
         clear hK K
         refine norm_ (a' := ?_) ?_ ?_
         rotate_left
         ·show Act.put _ (some 51) _ = _
          simp only [Act.put, List.setIfInBounds_toArray, List.set_cons_zero, List.set_cons_succ, i64_w, i32_w]
          rfl
         refine puz_ 9 (some 55) (nb_ 10 1023) rfl rfl (any_of HT_.out (by kernel_rfl)) ?_
         refine done_ (done_of HT_.out (by kernel_rfl)) ?_
         try go_wp2
         have n0_ := Aside0.mk (Kd.R_drew HO_8.out)
         have n1_ := Aside0.mk (Kd.S_drew HO_9.out)
         have n2_ := Aside0.mk (Kd.R_drew HO_10.out)
         have n3_ := Aside0.mk (Kd.R_drew HL584_0.out)
         have n4_ := Aside0.mk (blk_drew BK574.out)
         have n5_ := Aside0.mk (blk_drew BK583.out)
         have n6_ := Aside0.mk (Kd.C_drew HR584_0.out)
         have n7_ := Aside0.mk (below_drew1 HB.out)
         clear HO_8
         clear HO_9
         clear HO_10
         clear HL584_0
         clear BK574
         clear BK583
         clear HR584_0
         clear HB
         have HO_8 := n0_
         have HO_9 := n1_
         have HO_10 := n2_
         have HL584_0 := n3_
         have BK574 := n4_
         have BK583 := n5_
         have HR584_0 := n6_
         have HB := n7_
         clear n0_ n1_ n2_ n3_ n4_ n5_ n6_ n7_
         obtain ⟨Ao34, co34, eo34⟩ := Kd.R_slice HO_8.out
         (first | subst eo34 | (injection eo34 with f1_ f2_ f3_; have f4_ := f1_.symm; have f5_ := f3_.symm; clear f1_ f2_ f3_; subst f4_; subst f5_))
         have p588 : 0 ≤ (x26_1 : Int) := od_
         have q588 : x26_1 < (t576.length : Int) := od_
         obtain ⟨ad588, e588, hx588_0⟩ := Kd.at_int (Kd.R_reads' HO_8.out).2.2 x26_1 p588 q588
         cases e588
         replace p588 := eq_true p588
         replace q588 := eq_true q588
         have p589 : 0 ≤ (x13_2 : Int) := od_
         have q589 : x13_2 < (t576.length : Int) := od_
         obtain ⟨ad589, e589, hx589_0⟩ := Kd.at_int (Kd.R_reads' HO_8.out).2.2 x13_2 p589 q589
         obtain rfl : ad588 = ad589 := (by injection e589)
         replace p589 := eq_true p589
         replace q589 := eq_true q589
         refine start_ (n := 13) (S := fun w' => w'.cell? (ad588.add (x26_1).toNat) = some (.int .i64 (rd t576 x26_1)) ∧ w'.cell? (ad588.add (x13_2).toNat) = some (.int .i64 (rd t576 x13_2))) (ds := [10, 11]) (nb_ 13 0) (by kernel_rfl) rfl rfl ⟨hx588_0, hx589_0⟩ (fun hHeld => ?_); refine with_tabW impl_ActivePairs.tab13 impl_ActivePairs.bits13 (fun HT_ HW_ => ?_)
         generalize w32.drew = w33 at HO_8 HO_9 HO_10 HL584_0 BK574 BK583 HR584_0 HB hx588_0 hx589_0 hHeld ⊢
         refine puz_ 0 (some 56) (nb_ 13 1) rfl rfl (any_of HT_.out (by kernel_rfl)) ?_
         refine puz_ 1 (some 57) (nb_ 13 3) rfl rfl (any_of HT_.out (by kernel_rfl)) ?_
         refine puz_ 2 (some 58) (nb_ 13 7) rfl rfl (any_of HT_.out (by kernel_rfl)) ?_
         refine puz_ 3 (some 59) (nb_ 13 15) rfl rfl (any_of HT_.out (by kernel_rfl)) ?_
         refine puz_ 5 (some 61) (nb_ 13 47) rfl rfl (any_of HT_.out (by kernel_rfl)) ?_
         refine puz_ 6 (some 62) (nb_ 13 111) rfl rfl (any_of HT_.out (by kernel_rfl)) ?_
         refine puz_ 7 (some 63) (nb_ 13 239) rfl rfl (any_of HT_.out (by kernel_rfl)) ?_
         refine tkz_ 4 (some 60) (nb_ 13 255) rfl rfl (take_ofW HT_.out HW_.out (by kernel_rfl)) hHeld ?_
         refine tkz_ 8 (some 64) (nb_ 13 511) rfl rfl (take_ofW HT_.out HW_.out (by kernel_rfl)) hHeld ?_
         refine puz_ 9 (some 65) (nb_ 13 1023) rfl rfl (any_of HT_.out (by kernel_rfl)) ?_
         refine last_ (i := 10) (N := some 66) (nb_ 13 2047) rfl rfl (one_of HT_.out (by kernel_rfl)) (by decide) (fun K hK => ?_)
         refine value_ (w1 := ?_) (v := ?_) (by rfl) rfl ?_ ?_
         rotate_left 2
         ·go_simp
          constructor
          ·rfl
          ·rfl
         refine hK.out _ _ ?_
         clear hK K
         refine norm_ (a' := ?_) ?_ ?_
         rotate_left
         ·show Act.put _ (some 66) _ = _
          simp only [Act.put, List.setIfInBounds_toArray, List.set_cons_zero, List.set_cons_succ, i64_w, i32_w]
          rfl
         refine last_ (i := 11) (N := some 67) (nb_ 13 4095) rfl rfl (one_of HT_.out (by kernel_rfl)) (by decide) (fun K hK => ?_)
         refine Kd.R_append_step k63 (w0 := w) w.heap.size (by rfl) (.tmp 56) (.tmp 66) 33 63 (.agg #[(.int .i64 0), (.int .i64 0)]) 16 rfl Try.underlying33 info63 rfl (by decide) (by omega) u10 x10_2 (⟨rd t576 x26_1, rd t576 x13_2⟩ : S63) [.int .i64 (rd t576 x26_1), .int .i64 (rd t576 x13_2)] (fun _ => True) (fun _ => False) rfl rfl ?aP (fun _ hk => hk.elim) ?aF ?aO ?aB ?aS ?aL ?_
         (case aP => exact k63_mkM _ _ _ (⟨rd t576 x26_1, rd t576 x13_2⟩ : S63))
         (case aB => exact (bl2_ HB.out GE574.out GE583.out))
         (case aF => exact (fun _ _ => trivial))
         (case aO => exact (ra_ HO_10.out))
         (case aS => exact (below_size (bl2_ HB.out GE574.out GE583.out)))
         (case aL => have := LMc29.out; omega)
         intro v591 w35 ho hb hg hat
         rw [← Ny590.out] at ho
         have n0_ := Aside0.mk (Kd.R_over' (ra_ HO_8.out) (Kd.R_typed (ra_ HO_10.out)) (by decide) hg)
         have n1_ := Aside0.mk (Kd.S_over' (by (with_reducible repeat (first | apply Kd.S_alloc | apply Kd.S_drewN | apply Kd.S_drew)); exact HO_9.out) (Kd.R_typed (ra_ HO_10.out)) (by decide) hg)
         have n2_ := Aside0.mk (blk_grown (g := gb574) (o := .cells #[.int .i64 a0_0, .slice A0_1 l0_1.length c0_1] 26 (0, 0)) (bk_ BK574.out) hg (Kd.R_ne HO_10.out BK574.out (by decide)))
         have n3_ := Aside0.mk (blk_grown (g := gb583) (o := .cells #[.int .i64 ((rd_T37 l2 x26_1).f0), .int .i64 ((rd_T37 l2 x26_1).f1)] 37 (0, 0)) (bk_ BK583.out) hg (Kd.R_ne HO_10.out BK583.out (by decide)))
         have n4_ := Aside0.mk (Kd.R_over' (by (with_reducible repeat (first | apply Kd.R_alloc | apply Kd.R_drewN | apply Kd.R_drew)); exact HL584_0.out) (Kd.R_typed (ra_ HO_10.out)) (by decide) hg)
         have n5_ := Aside0.mk (hb)
         have n6_ := Aside0.mk (ho)
         clear HO_8
         clear HO_9
         clear BK574
         clear BK583
         clear HL584_0
         clear HB
         clear HO_10
         have HO_8 := n0_
         have HO_9 := n1_
         have BK574 := n2_
         have BK583 := n3_
         have HL584_0 := n4_
         have HB := n5_
         have HO592 := n6_
         clear n0_ n1_ n2_ n3_ n4_ n5_ n6_
         clear ho hb hg hat
         refine hK.out _ _ ?_
         clear hK K
         refine norm_ (a' := ?_) ?_ ?_
         rotate_left
         ·show Act.put _ (some 67) _ = _
          simp only [Act.put, List.setIfInBounds_toArray, List.set_cons_zero, List.set_cons_succ, i64_w, i32_w]
          rfl
         refine puz_ 12 (some 10) (nb_ 13 8191) rfl rfl (any_of HT_.out (by kernel_rfl)) ?_
         refine done_ (done_of HT_.out (by kernel_rfl)) ?_
         try go_wp2
         go_roundg k2
         case measure => have := HK1.out; have := HK2.out; omega
         case rel => exact ⟨(y590), (wrap64 (x13_2 + 1)), rs_, H', ⟨by have := HK1.out; have := HK2.out; omega⟩, ⟨ra_ HO_8.out⟩, ⟨by (with_reducible repeat (first | apply Kd.S_alloc | apply Kd.S_drewN | apply Kd.S_drew)); exact HO_9.out⟩, ⟨ra_ HO592.out⟩, ⟨bk_ BK574.out⟩, ⟨bk_ BK583.out⟩, ⟨bl2_ HB.out GE574.out GE583.out⟩⟩
        ·rw [if_neg c26] at H
         have c26b0 : (t587 == (wrap64 ((rd (rd_L2 t579 x26_1) x13_2) * (rd (rd_L2 t579 x26_1) x13_2)))) = false := beq_eq_false_iff_ne.mpr c26
         have c26b1 : (t587 != (wrap64 ((rd (rd_L2 t579 x26_1) x13_2) * (rd (rd_L2 t579 x26_1) x13_2)))) = true := bne_iff_ne.mpr c26
         have H' := Aside0.mk H
         clear H
         obtain ⟨Ao36, co36, eo36⟩ := Kd.S_slice HO_9.out
         subst eo36
         have p584 : 0 ≤ (x26_1 : Int) := od_
         have q584 : x26_1 < (t579.length : Int) := od_
         obtain ⟨ad584, A584_0, c584_0, e584, hx584_0, hl584_0, hi584_0⟩ := at_L2 (Kd.S_reads' HO_9.out).2.2 x26_1 p584 q584
         cases e584
         obtain ⟨ce584, hce584, hMe584, hcc584⟩ := Kd.S_get HO_9.out [] x26_1 p584 (by first | exact q584 | exact od_ | (have e_ := (Kd.S_reads' HO_9.out).1; omega))
         obtain ⟨ve584_0, rfl, ge584_0⟩ := hMe584
         have hv584_0 := hcc584 0 _ rfl
         rw [Nat.add_zero, show ((Kd.slice 2 (Kd.int .i64))).sz = 1 from rfl, Nat.mul_one] at hv584_0
         replace hv584_0 := Option.some.inj (hv584_0.symm.trans hx584_0)
         rw [hv584_0] at ge584_0
         have HL584_0 := Aside0.mk (show Kd.R (Kd.int .i64) 2 _ _ _ _ (rd_L2 t579 x26_1) from ge584_0)
         clear hv584_0 ge584_0
         clear hcc584 hce584
         have HR584_0 := Aside0.mk hi584_0
         have HC584_0 := Aside0.mk hl584_0
         clear hi584_0 hl584_0
         replace p584 := eq_true p584
         replace q584 := eq_true q584
         have p585 : 0 ≤ (x13_2 : Int) := od_
         have q585 : x13_2 < ((rd_L2 t579 x26_1).length : Int) := od_
         obtain ⟨ad585, e585, hx585_0⟩ := Kd.at_int (by repeat (first | (with_reducible exact HR584_0.out) | (with_reducible refine Kd.C_alloc ?_ _) | (with_reducible refine Kd.C_drewN ?_ _) | (with_reducible refine Kd.C_drew ?_) | exact HR584_0.out)) x13_2 p585 q585
         cases e585
         replace p585 := eq_true p585
         replace q585 := eq_true q585
         try go_wp2
         have n0_ := Aside0.mk (Kd.R_drew HO_8.out)
         have n1_ := Aside0.mk (Kd.S_drew HO_9.out)
         have n2_ := Aside0.mk (Kd.R_drew HO_10.out)
         have n3_ := Aside0.mk (Kd.R_drew HL584_0.out)
         have n4_ := Aside0.mk (blk_drew BK574.out)
         have n5_ := Aside0.mk (blk_drew BK583.out)
         have n6_ := Aside0.mk (Kd.C_drew HR584_0.out)
         have n7_ := Aside0.mk (below_drew1 HB.out)
         clear HO_8
         clear HO_9
         clear HO_10
         clear HL584_0
         clear BK574
         clear BK583
         clear HR584_0
         clear HB
         have HO_8 := n0_
         have HO_9 := n1_
         have HO_10 := n2_
         have HL584_0 := n3_
         have BK574 := n4_
         have BK583 := n5_
         have HR584_0 := n6_
         have HB := n7_
         clear n0_ n1_ n2_ n3_ n4_ n5_ n6_ n7_
         have p586 : 0 ≤ (x13_2 : Int) := od_
         have q586 : x13_2 < (l2.length : Int) := od_
         obtain ⟨ad586, e586, hx586_0, hx586_1⟩ := at_T37 HR2.out x13_2 p586 q586
         have hw586_1 := hx586_1
         have hw586_0 := hx586_0
         obtain rfl : ad582 = ad586 := (by injection e586)
         replace hx586_0 := (HB.out.cell (World.block_lt_of_cell? w _ hx586_0)).trans hx586_0
         replace hx586_1 := (HB.out.cell (World.block_lt_of_cell? w _ hx586_1)).trans hx586_1
         replace p586 := eq_true p586
         replace q586 := eq_true q586
         refine start_ (n := 10) (S := fun w' => w'.cell? ⟨gb583, 0, none⟩ = some (.int .i64 ((rd_T37 l2 x26_1).f0)) ∧ w'.cell? ⟨gb583, 1, none⟩ = some (.int .i64 ((rd_T37 l2 x26_1).f1)) ∧ w'.cell? (ad582.add ((x13_2).toNat * 2)) = some (.int .i64 ((rd_T37 l2 x13_2).f0)) ∧ w'.cell? ⟨(ad582.add ((x13_2).toNat * 2)).block, (ad582.add ((x13_2).toNat * 2)).off + 1, none⟩ = some (.int .i64 ((rd_T37 l2 x13_2).f1))) (ds := []) (nb_ 10 0) (by kernel_rfl) rfl rfl ⟨(blk_cell BK583.out 0).trans rfl, (blk_cell BK583.out 1).trans rfl, ((HB.out.cell (World.block_lt_of_cell? w _ hw586_0)).trans hw586_0), ((HB.out.cell (World.block_lt_of_cell? w _ hw586_1)).trans hw586_1)⟩ (fun hHeld => ?_); refine with_tabW impl_ActivePairs.tab12 impl_ActivePairs.bits12 (fun HT_ HW_ => ?_)
         generalize wr.drew = w37 at HO_8 HO_9 HO_10 HL584_0 BK574 BK583 HR584_0 HB hx586_0 hx586_1 hHeld ⊢
         refine puz_ 1 (some 47) (nb_ 10 2) rfl rfl (any_of HT_.out (by kernel_rfl)) ?_
         refine puz_ 2 (some 48) (nb_ 10 6) rfl rfl (any_of HT_.out (by kernel_rfl)) ?_
         refine puz_ 3 (some 49) (nb_ 10 14) rfl rfl (any_of HT_.out (by kernel_rfl)) ?_
         refine puz_ 6 (some 52) (nb_ 10 78) rfl rfl (any_of HT_.out (by kernel_rfl)) ?_
         refine puz_ 7 (some 53) (nb_ 10 206) rfl rfl (any_of HT_.out (by kernel_rfl)) ?_
         refine puz_ 8 (some 54) (nb_ 10 462) rfl rfl (any_of HT_.out (by kernel_rfl)) ?_
         refine tkz_ 0 (some 46) (nb_ 10 463) rfl rfl (take_ofW HT_.out HW_.out (by kernel_rfl)) hHeld ?_
         refine tkz_ 4 (some 50) (nb_ 10 479) rfl rfl (take_ofW HT_.out HW_.out (by kernel_rfl)) hHeld ?_
         refine one_ (i := 5) (N := some 51) (nb_ 10 511) rfl rfl (one_of HT_.out (by kernel_rfl)) (by decide) (fun K hK => ?_)
         refine goes_ Try.func32 (by kernel_rfl) rfl #[.agg #[.int .i64 ((rd_T37 l2 x26_1).f0), .int .i64 ((rd_T37 l2 x26_1).f1)], .agg #[.int .i64 ((rd_T37 l2 x13_2).f0), .int .i64 ((rd_T37 l2 x13_2).f1)]] (by rfl) rfl rfl mp_ ?_
         with_reducible refine (impl_Spot_square.calls ((rd_T37 l2 x26_1).f0) ((rd_T37 l2 x26_1).f1) ((rd_T37 l2 x13_2).f0) ((rd_T37 l2 x13_2).f1) t587 _ A25.out).mono ?_
         rintro e w38 ⟨rfl, hb⟩
         refine ⟨_, rfl, ?_⟩
         have n0_ := Aside0.mk (Kd.R_below (ra_ HO_8.out) hb)
         have n1_ := Aside0.mk (Kd.S_below (by (with_reducible repeat (first | apply Kd.S_alloc | apply Kd.S_drewN | apply Kd.S_drew)); exact HO_9.out) hb)
         have n2_ := Aside0.mk (Kd.R_below (ra_ HO_10.out) hb)
         have n3_ := Aside0.mk (Kd.R_below (by (with_reducible repeat (first | apply Kd.R_alloc | apply Kd.R_drewN | apply Kd.R_drew)); exact HL584_0.out) hb)
         have n4_ := Aside0.mk (blk_below (g := gb574) (o := .cells #[.int .i64 a0_0, .slice A0_1 l0_1.length c0_1] 26 (0, 0)) (bk_ BK574.out) hb)
         have n5_ := Aside0.mk (blk_below (g := gb583) (o := .cells #[.int .i64 ((rd_T37 l2 x26_1).f0), .int .i64 ((rd_T37 l2 x26_1).f1)] 37 (0, 0)) (bk_ BK583.out) hb)
         have n6_ := Aside0.mk (Kd.C_below (by repeat (first | (with_reducible exact HR584_0.out) | (with_reducible refine Kd.C_alloc ?_ _) | (with_reducible refine Kd.C_drewN ?_ _) | (with_reducible refine Kd.C_drew ?_) | exact HR584_0.out)) hb)
         have n7_ := Aside0.mk (below_step (bl2_ HB.out GE574.out GE583.out) hb)
         clear HO_8
         clear HO_9
         clear HO_10
         clear HL584_0
         clear BK574
         clear BK583
         clear HR584_0
         clear HB
         have HO_8 := n0_
         have HO_9 := n1_
         have HO_10 := n2_
         have HL584_0 := n3_
         have BK574 := n4_
         have BK583 := n5_
         have HR584_0 := n6_
         have HB := n7_
         clear n0_ n1_ n2_ n3_ n4_ n5_ n6_ n7_
         (try clear hb)
         (try clear hb2)
         (try clear hk)
         (try clear hi)
         refine hK.out _ _ ⟨(blk_cell BK583.out 0).trans rfl, (blk_cell BK583.out 1).trans rfl, ((HB.out.cell (World.block_lt_of_cell? w _ hw586_0)).trans hw586_0), ((HB.out.cell (World.block_lt_of_cell? w _ hw586_1)).trans hw586_1)⟩ (fun hHeld => ?_)
         clear hK K
         refine norm_ (a' := ?_) ?_ ?_
         rotate_left
         ·show Act.put _ (some 51) _ = _
          simp only [Act.put, List.setIfInBounds_toArray, List.set_cons_zero, List.set_cons_succ, i64_w, i32_w]
          rfl
         refine puz_ 9 (some 55) (nb_ 10 1023) rfl rfl (any_of HT_.out (by kernel_rfl)) ?_
         refine done_ (done_of HT_.out (by kernel_rfl)) ?_
         try go_wp2
         go_roundg k2
         case measure => have := HK1.out; have := HK2.out; omega
         case rel => exact ⟨(x10_2), (wrap64 (x13_2 + 1)), rs_, H', ⟨by have := HK1.out; have := HK2.out; omega⟩, ⟨ra_ HO_8.out⟩, ⟨by (with_reducible repeat (first | apply Kd.S_alloc | apply Kd.S_drewN | apply Kd.S_drew)); exact HO_9.out⟩, ⟨ra_ HO_10.out⟩, ⟨bk_ BK574.out⟩, ⟨bk_ BK583.out⟩, ⟨bl2_ HB.out GE574.out GE583.out⟩⟩
       ·rw [if_neg c20] at H
        have c20b0 := decide_eq_false c20
        clear c20
        have H' := Aside0.mk H
        clear H
        go_wp2
        go_roundg k2
        case measure => have := HK1.out; have := HK2.out; omega
        case rel => exact ⟨(x10_2), (wrap64 (x26_1 + 1)), rs_, H', ⟨by have := HK1.out; have := HK2.out; omega⟩, ⟨ra_ HO_8.out⟩, ⟨by (with_reducible repeat (first | apply Kd.S_alloc | apply Kd.S_drewN | apply Kd.S_drew)); exact HO_9.out⟩, ⟨ra_ HO_10.out⟩, ⟨bk_ BK574.out⟩, ⟨bl2_ HB.out GE574.out GE583.out⟩⟩
    ·rw [if_neg c14] at H
     have c14b0 := decide_eq_false c14
     clear c14
     simp only [Option.some.injEq, Prod.mk.injEq] at H
     obtain ⟨rfl, rfl⟩ := H
     go_wp2
     go_ret2
     exact ⟨_, re_, ra_ HO_10.out, bl1_ HB.out GE574.out⟩
 ·replace c5 := Bool.eq_false_iff.mpr c5
  subst c5
  have H1 : (some (([] : List (S63)), 1)) = some (r1, r2) := by rw [if_neg (show ¬ (false = true) by decide)] at H; exact H
  clear H
  have H := H1
  clear H1
  simp only [Option.some.injEq, Prod.mk.injEq] at H
  obtain ⟨rfl, rfl⟩ := H
  go_enter Try.func11, Try.ntmps11
  go_wp2_with (first | ((with_reducible refine gate_dst (N := 3) rfl ?_); refine box_event ?hg (N := 3) ?hd (cs := #[.int .i64 a0_0, .slice A0_1 l0_1.length c0_1]) (t := 26) ?hr ?_; (case hd => rfl); (case hg => rfl); (case hr => first | (go_simp; done) | (go_simp; rfl)); intro gb574 hg w39 hbox hb; have n0_ := Aside0.mk (below_step (bl0_ HB.out) hb); have n1_ := Aside0.mk (hbox); have n2_ := Aside0.mk ((by rw [hg]; exact (below_size (bl0_ HB.out)) : w.heap.size ≤ gb574)); have n3_ := Aside0.mk ((by rw [hg]; exact (below_size (bl0_ HB.out)) : w.heap.size ≤ gb574)); clear HB; have HB := n0_; have BK574 := n1_; have GW574 := n2_; have GE574 := n3_; clear n0_ n1_ n2_ n3_; clear hb hbox hg; obtain ⟨hcz40_0, hcz40_1, hfz40_0, hfz40_1⟩ := cz2_ BK574.out) | ((with_reducible refine gate_callee (f := 10) rfl ?_); refine goesL_ (some 18) rfl rfl Try.func10 (by kernel_rfl) rfl #[.agg #[.int .i64 a0_0, .slice A0_1 l0_1.length c0_1], .int .i64 a1, .slice A2 l2.length c2] rfl mp_ ?_; (with_reducible refine (impl_ValidPacking.calls k a0_0 _ _ l0_1 a1 _ _ l2 false _ ?side1 ?side2 ?side3 ?side4 A4.out).mono ?_); (case side1 => exact ca_ (Kd.C_below HR0_1.out HB.out)); (case side2 => exact HC0_1.out); (case side3 => exact ca_ (Kd.C_below HR2.out HB.out)); (case side4 => exact HC2.out); rintro e w41 ⟨rfl, hb⟩; refine ⟨_, rfl, ?_⟩; have n0_ := Aside0.mk (blk_below (g := gb574) (o := .cells #[.int .i64 a0_0, .slice A0_1 l0_1.length c0_1] 26 (0, 0)) (bk_ BK574.out) hb); have n1_ := Aside0.mk (below_step (bl1_ HB.out GE574.out) hb); clear BK574; clear HB; have BK574 := n0_; have HB := n1_; clear n0_ n1_; (try clear hb); (try clear hb2); (try clear hk); (try clear hi)))
  go_ret2
  exact ⟨_, re_, by first | exact Kd.R_nil _ _ _ _ _ | exact Kd.N_nil _ _ _ _ _ | exact Kd.V_nil _ _ _ _ _ | exact Kd.Q_nil _ _ _ _ _ | exact Kd.S_nil _ _ _ _ _, bl1_ HB.out GE574.out⟩

end Go.Proofs.Ytmckbecegiegaaa.A
