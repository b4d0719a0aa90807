/- For functions of the translation: a Lean function each, and that the call of the Go function comes to its answer. Written by this session's own program (myprint.py, over the kit's printer). -/
import Derived.Test.YtnbhnkpefhdgjaaLx0
import Derived.Test.YtnbhnkpefhdgjaaLx1
--compacted
namespace Go.Proofs.Ytnbhnkpefhdgjaa.L
open Go.RowKit Go.Proofs.YtnbhnkpefhdgjaaW.PrintWords Go.Proofs.YtnbhnkpefhdgjaaW.PrintLast Go.Proofs.YtnbhnkpefhdgjaaW.PrintMore
attribute [local go_sem] max2_int min2_int max_two min_two max_three min_three max_four min_four   -- for this text's walks alone
set_option linter.unusedVariables false
set_option linter.unusedSimpArgs false

/-! ### laws_markTree: function 26 -/
def laws_markTree.f (k : Nat) (a0_0 : Int) (l0_1 : List (S71)) (a1 : Int) : Option (Int × (List (S71))) := (laws_markTreeEdgeS.f k l0_1 a1).bind fun bt132 => (some (bt132.1, bt132.2))
theorem laws_markTree.mono : ∀ a0 a1 a2 k, LeO (laws_markTree.f k a0 a1 a2) (laws_markTree.f (k + 1) a0 a1 a2) := by
 intro a0 a1 a2 k
 unfold laws_markTree.f
 repeat' first
   | (with_reducible exact laws_markTreeEdgeS.mono _ _ _)
   | (with_reducible exact LeO.refl _)
   | (with_reducible exact LeO.none _)
   | (with_reducible refine LeO.ite ?_ ?_)
   | (with_reducible refine LeO.bind ?_ (fun _ => ?_))
   | exact laws_markTreeEdgeS.mono _ _ _
   | exact LeO.none _
   | refine LeO.ite ?_ ?_
   | refine LeO.bind ?_ (fun _ => ?_)
set_option maxHeartbeats 8000000 in
set_option maxRecDepth 100000 in
theorem laws_markTree.calls (k : Nat) (a0_0 : Int) (P0_1_ : Nat → Prop) (u9000_ : Value) (l0_1 : List (S71)) (a1 : Int) (r1 : Int) (r2 : List (S71)) (w0 w : World) (hB : Below w0.heap.size w0 w) (ho0_1 : Kd.R k71 71 w w0.heap.size P0_1_ u9000_ l0_1) (h : laws_markTree.f k a0_0 l0_1 a1 = some (r1, r2)) :
  Calls Try.prog 26 #[.agg #[.int .i64 a0_0, u9000_], .int .i64 a1] w fun e w' => e = .returned (.int .i64 r1) ∧ Kd.R k71 71 w' w0.heap.size (fun k_ => (P0_1_ k_ ∨ w.heap.size ≤ k_)) u9000_ r2 ∧ Below w0.heap.size w0 w' ∧ Kept w w' (fun k_ => P0_1_ k_) := by
 have hu29 := Try.underlying29
 have HO0_1 := Aside0.mk (show Kd.R k71 71 w w0.heap.size (fun k_ => (P0_1_ k_ ∨ w.heap.size ≤ k_)) u9000_ l0_1 from Kd.R_mono ho0_1 (fun k_ hk => (.inl hk)))
 have HK := Aside0.mk (Kept.refl w (fun k_ => P0_1_ k_))
 have HW0 := Aside0.mk hB.size
 have HB := Aside0.mk hB
 clear hB
 have H : ((laws_markTreeEdgeS.f k l0_1 a1).bind fun bt132 => (some (bt132.1, bt132.2))) = some (r1, r2) := h
 clear h
 replace H := Option.bind_eq_some_iff.mp H
 obtain ⟨⟨t132, t133⟩, A30, H⟩ := H
 replace H : (some (t132, t133)) = some (r1, r2) := H
 have A3 := Aside0.mk A30
 clear A30
 simp only [Option.some.injEq, Prod.mk.injEq] at H
 obtain ⟨rfl, rfl⟩ := H
 obtain ⟨Ao4, co4, eo4⟩ := Kd.R_slice HO0_1.out
 subst eo4
 go_enter Try.func26, Try.ntmps26
 go_wp2_with (first | ((with_reducible refine gate_dst (N := 2) rfl ?_); refine box_event ?hg (N := 2) ?hd (cs := #[.int .i64 a0_0, .slice Ao4 l0_1.length co4]) (t := 29) ?hr ?_; (case hd => rfl); (case hg => rfl); (case hr => first | (go_simp; done) | (go_simp; rfl)); intro gb131 hg w5 hbox hb; have n0_ := Aside0.mk (Kd.R_below (ra_ HO0_1.out) hb); have n1_ := Aside0.mk (Kept.below (S := (fun k_ => P0_1_ k_)) (by repeat (first | (with_reducible first | exact HK.out | apply Kept.alloc | apply Kept.drewN | apply Kept.drew) | exact HK.out)) hb); have n2_ := Aside0.mk (below_step (bl0_ HB.out) hb); have n3_ := Aside0.mk (hbox); have n4_ := Aside0.mk ((by rw [hg]; exact (by first | exact HK.out.1 | exact (show Kept w _ (fun k_ => P0_1_ k_) from by repeat (first | (with_reducible first | exact HK.out | apply Kept.alloc | apply Kept.drewN | apply Kept.drew) | exact HK.out)).1) : w.heap.size ≤ gb131)); have n5_ := Aside0.mk ((by rw [hg]; exact (below_size (bl0_ HB.out)) : w0.heap.size ≤ gb131)); clear HO0_1; clear HK; clear HB; have HO0_1 := n0_; have HK := n1_; have HB := n2_; have BK131 := n3_; have GW131 := n4_; have GE131 := n5_; clear n0_ n1_ n2_ n3_ n4_ n5_; clear hb hbox hg; have hcz6_0 : w5.cell? ⟨gb131, 0, none⟩ = some (.int .i64 a0_0) := (blk_cell BK131.out 0).trans rfl; have hcz6_1 : w5.cell? ⟨gb131, 1, none⟩ = some (.slice Ao4 l0_1.length co4) := (blk_cell BK131.out 1).trans rfl; have hfz6_0 := blk_frozen BK131.out 0; have hfz6_1 := blk_frozen BK131.out 1) | ((with_reducible refine gate_callee (f := 67) rfl ?_); refine goesL_ (some 8) rfl rfl Try.func67 (by kernel_rfl) rfl #[.slice Ao4 l0_1.length co4, .int .i64 a1] rfl mp_ ?_; (with_reducible refine (laws_markTreeEdgeS.calls k (fun k_ => some k_ = (.slice Ao4 l0_1.length co4 : Value).ownBlock) (.slice Ao4 l0_1.length co4) l0_1 a1 t132 t133 w0 _ ?side1 ?side2 A3.out).mono ?_); (case side1 => repeat (first | (with_reducible first | exact HB.out | apply below_alloc | apply pw_below_drewN | apply below_drew1 | refine below_set ?_ GE131.out) | exact HB.out)); (case side2 => exact Kd.R_tight rfl HO0_1.out); rintro e w7 ⟨rfl, hy0, hb, hkp⟩; refine ⟨_, rfl, ?_⟩; have n0_ := Aside0.mk (Kd.R_reok rfl hy0 (fun k_ e_ => HO0_1.out.1 k_ e_)); have n1_ := Aside0.mk (blk_kept (bk_ BK131.out) hkp (fun hs_ => (fun e_ => (Kd.R_ne HO0_1.out BK131.out (by decide)) e_) hs_)); have n2_ := Aside0.mk (Kept.then_ (S := (fun k_ => P0_1_ k_)) (by repeat (first | (with_reducible first | exact HK.out | apply Kept.alloc | apply Kept.drewN | apply Kept.drew | refine Kept.setCell ?_ (.inr GW131.out) _) | exact HK.out)) hkp (fun k_ hs_ => (fun e_ => (HO0_1.out.1 k_ e_.symm)) hs_)); have n3_ := Aside0.mk (hb); clear HO0_1; clear BK131; clear HK; clear HB; have HO0_1 := n0_; have BK131 := n1_; have HK := n2_; have HB := n3_; clear n0_ n1_ n2_ n3_; (try clear hb); (try clear hkp); (try clear hy0)))
 go_ret
 exact ⟨re_, ra_ HO0_1.out, by repeat (first | (with_reducible first | exact HB.out | apply below_alloc | apply pw_below_drewN | apply below_drew1 | refine below_set ?_ GE131.out) | exact HB.out), by repeat (first | (with_reducible first | exact HK.out | apply Kept.alloc | apply Kept.drewN | apply Kept.drew | refine Kept.setCell ?_ (.inr GW131.out) _) | exact HK.out)⟩

/-! ### spec_l30Reach: function 65 -/
mutual
def spec_l30Reach.l0 : Nat → Int → List Int → List Int → Int → Int → List (S71) → Option (List Int × List Int)
 | 0, _, _, _, _, _, _ => none
 | k + 1, x1, x6, x7, x8, x1000, x1001 => if x8 < x1000 then (if x6.length < 17592186044416 then (if x7.length < 17592186044416 then (spec_l30Reach.l0 k x1 (x6 ++ [(-1)]) (x7 ++ [(-1)]) (wrap64 (x8 + 1)) x1000 x1001) else (none)) else (none)) else (if 0 ≤ x1 then (if x1 < (x6.length : Int) then (spec_l30Reach.l1 k (x6.set (x1 : Int).toNat 0) x7 true x1000 x1001) else (none)) else (none))
def spec_l30Reach.l1 : Nat → List Int → List Int → Bool → Int → List (S71) → Option (List Int × List Int)
 | 0, _, _, _, _, _ => none
 | k + 1, x6, x7, x9, x1000, x1001 => if x9 = true then (spec_l30Reach.l2 k x6 x7 false 0 x1000 x1001) else (some (x6, x7))
def spec_l30Reach.l2 : Nat → List Int → List Int → Bool → Int → Int → List (S71) → Option (List Int × List Int)
 | 0, _, _, _, _, _, _ => none
 | k + 1, x6, x7, x9, x10, x1000, x1001 => if x10 < (x1001.length : Int) then (if 0 ≤ x10 then (if 0 ≤ ((rd_T71 x1001 x10).f0) then (if ((rd_T71 x1001 x10).f0) < (x6.length : Int) then (if (rd x6 ((rd_T71 x1001 x10).f0)) < 0 then (if 0 ≤ ((rd_T71 x1001 x10).f1) then (if ((rd_T71 x1001 x10).f1) < (x6.length : Int) then (spec_l30Reach.j3 k x6 x7 x9 x10 (decide ((rd x6 ((rd_T71 x1001 x10).f1)) ≥ 0)) x1000 x1001 ((rd_T71 x1001 x10).f0) ((rd_T71 x1001 x10).f1) ((rd_T71 x1001 x10).f2)) else (none)) else (none)) else (spec_l30Reach.j3 k x6 x7 x9 x10 false x1000 x1001 ((rd_T71 x1001 x10).f0) ((rd_T71 x1001 x10).f1) ((rd_T71 x1001 x10).f2))) else (none)) else (none)) else (none)) else (spec_l30Reach.l1 k x6 x7 x9 x1000 x1001)
def spec_l30Reach.j3 : Nat → List Int → List Int → Bool → Int → Bool → Int → List (S71) → Int → Int → Int → Option (List Int × List Int)
 | 0, _, _, _, _, _, _, _, _, _, _ => none
 | k + 1, x6, x7, x9, x10, x61, x1000, x1001, x149000, x149001, x149002 => if x61 = true then (if 0 ≤ x149001 then (if x149001 < (x6.length : Int) then (if 0 ≤ x149000 then (if x149000 < (x6.length : Int) then (if x149000 < (x7.length : Int) then (spec_l30Reach.l2 k (x6.set (x149000 : Int).toNat (wrap64 ((rd x6 x149001) + x149002))) (x7.set (x149000 : Int).toNat x149001) true (wrap64 (x10 + 1)) x1000 x1001) else (none)) else (none)) else (none)) else (none)) else (none)) else (if 0 ≤ x149001 then (if x149001 < (x6.length : Int) then (if (rd x6 x149001) < 0 then (if 0 ≤ x149000 then (if x149000 < (x6.length : Int) then (if (rd x6 x149000) ≥ 0 then (if x149001 < (x7.length : Int) then (spec_l30Reach.l2 k (x6.set (x149001 : Int).toNat (wrap64 ((rd x6 x149000) + x149002))) (x7.set (x149001 : Int).toNat x149000) true (wrap64 (x10 + 1)) x1000 x1001) else (none)) else (spec_l30Reach.l2 k x6 x7 x9 (wrap64 (x10 + 1)) x1000 x1001)) else (none)) else (none)) else (spec_l30Reach.l2 k x6 x7 x9 (wrap64 (x10 + 1)) x1000 x1001)) else (none)) else (none))
end
def spec_l30Reach.f (k : Nat) (a0_0 : Int) (l0_1 : List (S71)) (a1 : Int) : Option (List Int × List Int) := spec_l30Reach.l0 k a1 (([] : List Int)) (([] : List Int)) 0 a0_0 l0_1
theorem spec_l30Reach.mono_l : ∀ k, (∀ y0 y1 y2 y3 y4 y5, LeO (spec_l30Reach.l0 k y0 y1 y2 y3 y4 y5) (spec_l30Reach.l0 (k + 1) y0 y1 y2 y3 y4 y5)) ∧ (∀ y0 y1 y2 y3 y4, LeO (spec_l30Reach.l1 k y0 y1 y2 y3 y4) (spec_l30Reach.l1 (k + 1) y0 y1 y2 y3 y4)) ∧ (∀ y0 y1 y2 y3 y4 y5, LeO (spec_l30Reach.l2 k y0 y1 y2 y3 y4 y5) (spec_l30Reach.l2 (k + 1) y0 y1 y2 y3 y4 y5)) ∧ (∀ y0 y1 y2 y3 y4 y5 y6 y7 y8 y9, LeO (spec_l30Reach.j3 k y0 y1 y2 y3 y4 y5 y6 y7 y8 y9) (spec_l30Reach.j3 (k + 1) y0 y1 y2 y3 y4 y5 y6 y7 y8 y9))
 | 0 => ⟨fun _ _ _ _ _ _ r h => by simp [spec_l30Reach.l0] at h, fun _ _ _ _ _ r h => by simp [spec_l30Reach.l1] at h, fun _ _ _ _ _ _ r h => by simp [spec_l30Reach.l2] at h, fun _ _ _ _ _ _ _ _ _ _ r h => by simp [spec_l30Reach.j3] at h⟩
 | k + 1 => by
  obtain ⟨ih0, ih1, ih2, ih3⟩ := spec_l30Reach.mono_l k
  refine ⟨?_, ?_, ?_, ?_⟩
  ·intro y0 y1 y2 y3 y4 y5
   unfold spec_l30Reach.l0
   repeat' first
   | (with_reducible exact ih0 _ _ _ _ _ _)
   | (with_reducible exact ih1 _ _ _ _ _)
   | (with_reducible exact ih2 _ _ _ _ _ _)
   | (with_reducible exact ih3 _ _ _ _ _ _ _ _ _ _)
   | (with_reducible exact LeO.refl _)
   | (with_reducible exact LeO.none _)
   | (with_reducible refine LeO.ite ?_ ?_)
   | (with_reducible refine LeO.bind ?_ (fun _ => ?_))
  ·intro y0 y1 y2 y3 y4
   unfold spec_l30Reach.l1
   repeat' first
   | (with_reducible exact ih0 _ _ _ _ _ _)
   | (with_reducible exact ih1 _ _ _ _ _)
   | (with_reducible exact ih2 _ _ _ _ _ _)
   | (with_reducible exact ih3 _ _ _ _ _ _ _ _ _ _)
   | (with_reducible exact LeO.refl _)
   | (with_reducible exact LeO.none _)
   | (with_reducible refine LeO.ite ?_ ?_)
   | (with_reducible refine LeO.bind ?_ (fun _ => ?_))
  ·intro y0 y1 y2 y3 y4 y5
   unfold spec_l30Reach.l2
   repeat' first
   | (with_reducible exact ih0 _ _ _ _ _ _)
   | (with_reducible exact ih1 _ _ _ _ _)
   | (with_reducible exact ih2 _ _ _ _ _ _)
   | (with_reducible exact ih3 _ _ _ _ _ _ _ _ _ _)
   | (with_reducible exact LeO.refl _)
   | (with_reducible exact LeO.none _)
   | (with_reducible refine LeO.ite ?_ ?_)
   | (with_reducible refine LeO.bind ?_ (fun _ => ?_))
  ·intro y0 y1 y2 y3 y4 y5 y6 y7 y8 y9
   unfold spec_l30Reach.j3
   repeat' first
   | (with_reducible exact ih0 _ _ _ _ _ _)
   | (with_reducible exact ih1 _ _ _ _ _)
   | (with_reducible exact ih2 _ _ _ _ _ _)
   | (with_reducible exact ih3 _ _ _ _ _ _ _ _ _ _)
   | (with_reducible exact LeO.refl _)
   | (with_reducible exact LeO.none _)
   | (with_reducible refine LeO.ite ?_ ?_)
   | (with_reducible refine LeO.bind ?_ (fun _ => ?_))
theorem spec_l30Reach.mono : ∀ a0 a1 a2 k, LeO (spec_l30Reach.f k a0 a1 a2) (spec_l30Reach.f (k + 1) a0 a1 a2) := by
 intro a0 a1 a2 k
 obtain ⟨ih0, ih1, ih2, ih3⟩ := spec_l30Reach.mono_l k
 unfold spec_l30Reach.f
 repeat' first
   | (with_reducible exact ih0 _ _ _ _ _ _)
   | (with_reducible exact ih1 _ _ _ _ _)
   | (with_reducible exact ih2 _ _ _ _ _ _)
   | (with_reducible exact ih3 _ _ _ _ _ _ _ _ _ _)
   | (with_reducible exact LeO.refl _)
   | (with_reducible exact LeO.none _)
   | (with_reducible refine LeO.ite ?_ ?_)
   | (with_reducible refine LeO.bind ?_ (fun _ => ?_))
def spec_l30Reach.T17 : Bool × List (List Nat × List Nat) := (true, [([], []), ([], []), ([1], [1]), ([], []), ([], []), ([4], [4]), ([3, 5], [3, 5]), ([6], [6]), ([], []), ([8], [8]), ([7, 9], [7, 9]), ([0, 2, 0, 1, 2, 3, 4, 5, 6, 7, 8, 9, 10], [0, 2]), ([11, 10, 0, 1, 2, 3, 4, 5, 6, 7, 8, 9, 10], [10, 11])])
def spec_l30Reach.B17 : List Nat := [0, 0, 2, 0, 0, 16, 56, 120, 0, 256, 1016, 2047, 4095]
theorem spec_l30Reach.tab17 : rtab .any (opsOf Try.f65 17) = spec_l30Reach.T17 := by kernel_rfl
theorem spec_l30Reach.bits17 : waitsOk spec_l30Reach.T17.2 spec_l30Reach.B17 = true := by kernel_rfl
def spec_l30Reach.T21 : Bool × List (List Nat × List Nat) := (true, [([], []), ([], []), ([1], [1]), ([], []), ([], []), ([4], [4]), ([3, 5], [3, 5]), ([6], [6]), ([], []), ([8], [8]), ([7, 9], [7, 9]), ([0, 2, 0, 1, 2, 3, 4, 5, 6, 7, 8, 9, 10], [0, 2]), ([11, 10, 0, 1, 2, 3, 4, 5, 6, 7, 8, 9, 10], [10, 11])])
def spec_l30Reach.B21 : List Nat := [0, 0, 2, 0, 0, 16, 56, 120, 0, 256, 1016, 2047, 4095]
theorem spec_l30Reach.tab21 : rtab .any (opsOf Try.f65 21) = spec_l30Reach.T21 := by kernel_rfl
theorem spec_l30Reach.bits21 : waitsOk spec_l30Reach.T21.2 spec_l30Reach.B21 = true := by kernel_rfl
set_option maxHeartbeats 8000000 in
set_option maxRecDepth 100000 in
theorem spec_l30Reach.calls (k : Nat) (g0 : Nat) (a0_0 : Int) (A0_1 : Option Addr) (c0_1 : Nat) (l0_1 : List (S71)) (a1 : Int) (r1 : List Int) (r2 : List Int) (w : World) (hb0 : w.heap[g0]? = some (.cells #[.int .i64 a0_0, .slice A0_1 l0_1.length c0_1] 29 (0, 0))) (hr0_1 : Kd.C k71 w A0_1 l0_1.length l0_1) (hc0_1 : l0_1.length ≤ c0_1) (h : spec_l30Reach.f k a0_0 l0_1 a1 = some (r1, r2)) :
  Calls Try.prog 65 #[.pointer (some ⟨g0, 0, none⟩), .int .i64 a1] w fun e w' => ∃ v0_ v1_ : Value, e = .returned (.tuple #[v0_, v1_]) ∧ Kd.R (Kd.int .i64) 2 w' w.heap.size (fun k_ => some k_ ≠ (v1_ : Value).ownBlock) v0_ r1 ∧ Kd.R (Kd.int .i64) 2 w' w.heap.size (fun k_ => some k_ ≠ (v0_ : Value).ownBlock) v1_ r2 ∧ Below w.heap.size w w' := by
 have hu71 := Try.underlying71
 have HR0_1 := Aside0.mk hr0_1
 have HC0_1 := Aside0.mk hc0_1
 clear hr0_1 hc0_1
 have BK0 := Aside0.mk hb0
 clear hb0
 have HB := Aside0.mk (Below.refl w.heap.size w)
 have H : (spec_l30Reach.l0 k a1 (([] : List Int)) (([] : List Int)) 0 a0_0 l0_1) = some (r1, r2) := h
 clear h
 obtain ⟨y134, hy134⟩ : ∃ y_ : List Int, y_ = (([] : List Int)) := ⟨_, rfl⟩
 replace H : (spec_l30Reach.l0 k a1 y134 (([] : List Int)) 0 a0_0 l0_1) = some (r1, r2) := yh_ H hy134
 have Ny134 := Aside0.mk hy134
 clear hy134
 obtain ⟨y137, hy137⟩ : ∃ y_ : List Int, y_ = (([] : List Int)) := ⟨_, rfl⟩
 replace H : (spec_l30Reach.l0 k a1 y134 y137 0 a0_0 l0_1) = some (r1, r2) := yh_ H hy137
 have Ny137 := Aside0.mk hy137
 clear hy137
 have H' := Aside0.mk H
 clear H
 go_enter Try.func65, Try.ntmps65
 go_wp2_with (first | ((with_reducible refine gate_dst (N := 12) rfl ?_); refine Kd.R_lit (Kd.int .i64) _ 2 ?hg (N := 12) ?hd (xs := ([] : List Int)) (inner := []) (ok := fun _ => True) (okp := fun _ => True) ?hr ?hp (fun _ hk => hk) trivial (Below.refl _ _) (Nat.le_refl _) (by simp) ?_; (case hd => rfl); (case hg => rfl); (case hr => first | (go_simp; done) | (go_simp; rfl)); (case hp => exact (Reps.none _ _)); intro v135 w3 ho4 hb hg_ hnew_; clear hg_ hnew_; (first | rw [← Ny134.out] at ho4 | (simp only [Int.reduceToNat] at ho4; rw [← Ny134.out] at ho4)); have n0_ := Aside0.mk (Kd.R_lower ho4 (below_size (bl0_ HB.out))); have n1_ := Aside0.mk (blk_below (g := g0) (o := .cells #[.int .i64 a0_0, .slice A0_1 l0_1.length c0_1] 29 (0, 0)) (bk_ BK0.out) hb); have n2_ := Aside0.mk (below_step (bl0_ HB.out) hb); clear BK0; clear HB; have HO136 := n0_; have BK0 := n1_; have HB := n2_; clear n0_ n1_ n2_; clear hb ho4) | ((with_reducible refine gate_dst (N := 13) rfl ?_); refine Kd.R_lit (Kd.int .i64) _ 2 ?hg (N := 13) ?hd (xs := ([] : List Int)) (inner := []) (ok := fun _ => True) (okp := fun _ => True) ?hr ?hp (fun _ hk => hk) trivial (Below.refl _ _) (Nat.le_refl _) (by simp) ?_; (case hd => rfl); (case hg => rfl); (case hr => first | (go_simp; done) | (go_simp; rfl)); (case hp => exact (Reps.none _ _)); intro v138 w5 ho6 hb hg_ hnew_; clear hg_ hnew_; (first | rw [← Ny137.out] at ho6 | (simp only [Int.reduceToNat] at ho6; rw [← Ny137.out] at ho6)); have n0_ := Aside0.mk (Kd.R_elder' (ra_ HO136.out) (Kd.R_base ho6) hb); have n1_ := Aside0.mk (Kd.R_lower (Kd.R_new' ho6 (Kd.R_lt (ra_ HO136.out))) (below_size (bl0_ HB.out))); have n2_ := Aside0.mk (blk_below (g := g0) (o := .cells #[.int .i64 a0_0, .slice A0_1 l0_1.length c0_1] 29 (0, 0)) (bk_ BK0.out) hb); have n3_ := Aside0.mk (below_step (bl0_ HB.out) hb); clear HO136; clear BK0; clear HB; have HO136 := n0_; have HO139 := n1_; have BK0 := n2_; have HB := n3_; clear n0_ n1_ n2_ n3_; clear hb ho6))
 go_loopg [6, 7, 8] k (fun kq v6 v7 v8 w' => ∃ (x6_1 : List Int) (x7_1 : List Int) (x8_1 : Int), v8 = .int .i64 x8_1 ∧ Aside0 (spec_l30Reach.l0 kq a1 x6_1 x7_1 x8_1 a0_0 l0_1 = some (r1, r2)) ∧ Aside0 (kq ≤ k) ∧ Aside0 (Kd.R (Kd.int .i64) 2 w' w.heap.size (fun k_ => some k_ ≠ (v7 : Value).ownBlock) v6 x6_1) ∧ Aside0 (Kd.R (Kd.int .i64) 2 w' w.heap.size (fun k_ => some k_ ≠ (v6 : Value).ownBlock) v7 x7_1) ∧ Aside0 (w'.heap[g0]? = some (.cells #[.int .i64 a0_0, (.slice A0_1 l0_1.length c0_1)] 29 (0, 0))) ∧ Aside0 (Below w.heap.size w w'))
 case atStart => exact ⟨(y134), (y137), (0), rs_, H', ⟨Nat.le_refl _⟩, ⟨by (with_reducible repeat (first | apply Kd.R_alloc | apply Kd.R_drewN | apply Kd.R_drew)); exact Kd.R_mono HO136.out (fun _ hk => hk.2)⟩, ⟨by (with_reducible repeat (first | apply Kd.R_alloc | apply Kd.R_drewN | apply Kd.R_drew)); exact Kd.R_mono HO139.out (fun _ hk => hk.2)⟩, ⟨bk_ BK0.out⟩, ⟨bl0_ HB.out⟩⟩
 case round =>
  clear H'
  try clear p2
  try clear c6
  obtain ⟨x6_1, x7_1, x8_1, rfl, HA, HK1, HO_6, HO_7, BK0, HB⟩ := hrel
  cases gk with
  | zero => exact absurd HA.out (by simp [spec_l30Reach.l0])
  | succ k1 =>
   have H := HA.out
   clear HA
   simp only [spec_l30Reach.l0] at H
   by_cases c7 : x8_1 < a0_0
   ·rw [if_pos c7] at H
    have c7b0 := decide_eq_true c7
    clear c7
    by_cases c8 : x6_1.length < 17592186044416
    rotate_left
    ·exact nope_ c8 H
    rw [if_pos c8] at H
    have LMc8 := Aside0.mk c8
    clear c8
    obtain ⟨y140, hy140⟩ : ∃ y_ : List Int, y_ = (x6_1 ++ [(-1)]) := ⟨_, rfl⟩
    replace H : (if x7_1.length < 17592186044416 then (spec_l30Reach.l0 k1 a1 y140 (x7_1 ++ [(-1)]) (wrap64 (x8_1 + 1)) a0_0 l0_1) else (none)) = some (r1, r2) := yh_ H hy140
    have Ny140 := Aside0.mk hy140
    clear hy140
    by_cases c9 : x7_1.length < 17592186044416
    rotate_left
    ·exact nope_ c9 H
    rw [if_pos c9] at H
    have LMc9 := Aside0.mk c9
    clear c9
    obtain ⟨y143, hy143⟩ : ∃ y_ : List Int, y_ = (x7_1 ++ [(-1)]) := ⟨_, rfl⟩
    replace H : (spec_l30Reach.l0 k1 a1 y140 y143 (wrap64 (x8_1 + 1)) a0_0 l0_1) = some (r1, r2) := yh_ H hy143
    have Ny143 := Aside0.mk hy143
    clear hy143
    have H' := Aside0.mk H
    clear H
    have hcz10_0 : wr.cell? ⟨g0, 0, none⟩ = some (.int .i64 a0_0) := (blk_cell BK0.out 0).trans rfl
    have hcz10_1 : wr.cell? ⟨g0, 1, none⟩ = some (.slice A0_1 l0_1.length c0_1) := (blk_cell BK0.out 1).trans rfl
    have hfz10_0 := blk_frozen BK0.out 0
    have hfz10_1 := blk_frozen BK0.out 1
    go_wp2_with (first | ((with_reducible refine gate_builtin (b := .append) (xs := #[.tmp 22, .tmp 23]) rfl ?_); at_builtin; refine Kd.R_append (Kd.int .i64) (w0 := w) w.heap.size rfl (.tmp 22) (.tmp 23) 36 2 (.int .i64 0) 8 rfl Try.underlying36 info2 rfl (by decide) (by omega) u6 x6_1 (-1) [.int .i64 (-1)] (fun k_ => some k_ ≠ (u7 : Value).ownBlock) (fun _ => False) rfl rfl ?aP (fun _ hk => hk.elim) ?aF ?aO ?aB ?aS ?aL ?_; (case aP => exact rfl); (case aB => exact (bl0_ HB.out)); (case aF => exact (fun k_ hk => Kd.fresh' (Kd.R_lt (ra_ HO_7.out)) k_ hk)); (case aO => exact (ra_ HO_6.out)); (case aS => exact (below_size (bl0_ HB.out))); (case aL => have := LMc8.out; omega); intro v141 w11 ho hb hg hat; rw [← Ny140.out] at ho; have n0_ := Aside0.mk (Kd.R_after (ok := (fun _ => True)) (by (with_reducible repeat (first | apply Kd.R_alloc | apply Kd.R_drewN | apply Kd.R_drew)); exact Kd.R_mono HO_7.out (fun _ hk => ⟨trivial, hk⟩)) hg hat); have n1_ := Aside0.mk (blk_grown (g := g0) (o := .cells #[.int .i64 a0_0, .slice A0_1 l0_1.length c0_1] 29 (0, 0)) (bk_ BK0.out) hg (Kd.R_ne HO_6.out BK0.out (by decide))); have n2_ := Aside0.mk (hb); have n3_ := Aside0.mk (ho); clear HO_7; clear BK0; clear HB; clear HO_6; have HO_7 := n0_; have BK0 := n1_; have HB := n2_; have HO142 := n3_; clear n0_ n1_ n2_ n3_; clear ho hb hg hat) | ((with_reducible refine gate_builtin (b := .append) (xs := #[.tmp 25, .tmp 26]) rfl ?_); at_builtin; refine Kd.R_append (Kd.int .i64) (w0 := w) w.heap.size rfl (.tmp 25) (.tmp 26) 36 2 (.int .i64 0) 8 rfl Try.underlying36 info2 rfl (by decide) (by omega) u7 x7_1 (-1) [.int .i64 (-1)] (fun k_ => some k_ ≠ (v141 : Value).ownBlock) (fun _ => False) rfl rfl ?aP (fun _ hk => hk.elim) ?aF ?aO ?aB ?aS ?aL ?_; (case aP => exact rfl); (case aB => exact (bl0_ HB.out)); (case aF => exact (fun k_ hk => Kd.fresh' (Kd.R_lt (ra_ HO142.out)) k_ hk)); (case aO => exact (by (with_reducible repeat (first | apply Kd.R_alloc | apply Kd.R_drewN | apply Kd.R_drew)); exact Kd.R_mono HO_7.out (fun _ hk => hk.2))); (case aS => exact (below_size (bl0_ HB.out))); (case aL => have := LMc9.out; omega); intro v144 w12 ho hb hg hat; rw [← Ny143.out] at ho; have n0_ := Aside0.mk (blk_grown (g := g0) (o := .cells #[.int .i64 a0_0, .slice A0_1 l0_1.length c0_1] 29 (0, 0)) (bk_ BK0.out) hg (Kd.R_ne HO_7.out BK0.out (by decide))); have n1_ := Aside0.mk (Kd.R_after (ok := (fun _ => True)) (by (with_reducible repeat (first | apply Kd.R_alloc | apply Kd.R_drewN | apply Kd.R_drew)); exact Kd.R_mono HO142.out (fun _ hk => ⟨trivial, hk⟩)) hg hat); have n2_ := Aside0.mk (hb); have n3_ := Aside0.mk (ho); clear BK0; clear HO142; clear HB; clear HO_7; have BK0 := n0_; have HO142 := n1_; have HB := n2_; have HO145 := n3_; clear n0_ n1_ n2_ n3_; clear ho hb hg hat))
    go_roundg k1
    case measure => have := HK1.out; omega
    case rel => exact ⟨(y140), (y143), (wrap64 (x8_1 + 1)), rs_, H', ⟨by have := HK1.out; omega⟩, ⟨by (with_reducible repeat (first | apply Kd.R_alloc | apply Kd.R_drewN | apply Kd.R_drew)); exact Kd.R_mono HO142.out (fun _ hk => hk.2)⟩, ⟨ra_ HO145.out⟩, ⟨bk_ BK0.out⟩, ⟨bl0_ HB.out⟩⟩
   ·rw [if_neg c7] at H
    have c7b0 := decide_eq_false c7
    clear c7
    by_cases c13 : 0 ≤ a1
    rotate_left
    ·exact nope_ c13 H
    rw [if_pos c13] at H
    have c13b0 := decide_eq_true c13
    clear c13
    by_cases c14 : a1 < (x6_1.length : Int)
    rotate_left
    ·exact nope_ c14 H
    rw [if_pos c14] at H
    have c14b0 := decide_eq_true c14
    clear c14
    obtain ⟨y146, hy146⟩ : ∃ y_ : List Int, y_ = (x6_1.set (a1 : Int).toNat 0) := ⟨_, rfl⟩
    replace H : (spec_l30Reach.l1 k1 y146 x7_1 true a0_0 l0_1) = some (r1, r2) := yh_ H hy146
    have Ny146 := Aside0.mk hy146
    clear hy146
    have H' := Aside0.mk H
    clear H
    have hcz16_0 : wr.cell? ⟨g0, 0, none⟩ = some (.int .i64 a0_0) := (blk_cell BK0.out 0).trans rfl
    have hcz16_1 : wr.cell? ⟨g0, 1, none⟩ = some (.slice A0_1 l0_1.length c0_1) := (blk_cell BK0.out 1).trans rfl
    have hfz16_0 := blk_frozen BK0.out 0
    have hfz16_1 := blk_frozen BK0.out 1
    have p15 : 0 ≤ (a1 : Int) := od_
    have q15 : (a1 : Int) < ((x6_1.length : Int) : Int) := od_
    obtain ⟨go15, co15, eo15, gb15, gl15, cl15, HG15⟩ := Kd.R_form HO_6.out (by omega)
    (first | cases eo15 | (injection eo15 with ea_ en_ ec_; (first | subst ea_ | (injection ea_ with ea_; subst ea_)); subst ec_; clear en_))
    have GB15 := Aside0.mk gb15
    have GG15 := Aside0.mk HG15
    clear gb15 gl15 HG15
    obtain ⟨hx15_0, hf15_0⟩ := Kd.R_celln 0 HO_6.out (a1 : Int) p15 q15
    replace p15 := eq_true p15
    replace q15 := eq_true q15
    have HP17 := Kd.R_putg HO_6.out (a1 : Int) 0
    go_wp2_with (first | ((with_reducible refine gate_store (t := 2) (p := 30) rfl ?_); refine store_event (t := 2) (p := 30) (v := ?vo_w18) (w1 := (wr.setCell ⟨go15, (a1 : Int).toNat, none⟩ (.int .i64 0))) ?hg ?ho ?hn ?hr ?_; (case ho => rfl); (case hg => rfl); (case hn => rfl); (case hr => first | (go_simp; done) | (go_simp; rfl)); intro w18 hw; have hg : wr.grownBy w18 (some go15) := (by rw [hw]; exact HP17.2); have hp_ : Kd.R (Kd.int .i64) 2 w18 w.heap.size (fun k_ => some k_ ≠ (u7 : Value).ownBlock) (.slice (some ⟨go15, 0, none⟩) x6_1.length co15) y146 := (by rw [hw, Ny146.out]; exact HP17.1); clear HP17; have n0_ := Aside0.mk (hp_); have n1_ := Aside0.mk (Kd.R_after (v := (.slice (some ⟨go15, 0, none⟩) x6_1.length co15)) (v1 := (.slice (some ⟨go15, 0, none⟩) x6_1.length co15)) (ok := (fun _ => True)) (by (with_reducible repeat (first | apply Kd.R_alloc | apply Kd.R_drewN | apply Kd.R_drew)); exact Kd.R_mono HO_7.out (fun _ hk => ⟨trivial, hk⟩)) hg (.inl rfl)); have n2_ := Aside0.mk (blk_grown (g := g0) (o := .cells #[.int .i64 a0_0, .slice A0_1 l0_1.length c0_1] 29 (0, 0)) (bk_ BK0.out) hg (Kd.R_ne HO_6.out BK0.out (by decide))); have n3_ := Aside0.mk ((by rw [hw]; exact below_set (HB.out) GB15.out : Below w.heap.size w w18)); clear HO_6; clear HO_7; clear BK0; clear HB; have HO_6 := n0_; have HO_7 := n1_; have BK0 := n2_; have HB := n3_; clear n0_ n1_ n2_ n3_; clear hg hw hp_))
    go_loopg [9] k1 (fun kq v9 w' => ∃ (x6_2 : List Int) (x7_2 : List Int) (x9_2 : Bool), v9 = .bool x9_2 ∧ Aside0 (spec_l30Reach.l1 kq x6_2 x7_2 x9_2 a0_0 l0_1 = some (r1, r2)) ∧ Aside0 (kq ≤ k1) ∧ Aside0 (Kd.R (Kd.int .i64) 2 w' w.heap.size (fun k_ => some k_ ≠ (u7 : Value).ownBlock) (.slice (some ⟨go15, 0, none⟩) x6_1.length co15) x6_2) ∧ Aside0 (Kd.R (Kd.int .i64) 2 w' w.heap.size (fun k_ => some k_ ≠ ((.slice (some ⟨go15, 0, none⟩) x6_1.length co15) : Value).ownBlock) u7 x7_2) ∧ Aside0 (w'.heap[g0]? = some (.cells #[.int .i64 a0_0, (.slice A0_1 l0_1.length c0_1)] 29 (0, 0))) ∧ Aside0 (Below w.heap.size w w'))
    case atStart => exact ⟨(y146), (x7_1), (true), rs_, H', ⟨Nat.le_refl _⟩, ⟨ra_ HO_6.out⟩, ⟨by (with_reducible repeat (first | apply Kd.R_alloc | apply Kd.R_drewN | apply Kd.R_drew)); exact Kd.R_mono HO_7.out (fun _ hk => hk.2)⟩, ⟨bk_ BK0.out⟩, ⟨bl0_ HB.out⟩⟩
    case round =>
     clear H'
     try clear c1
     try clear p1
     try clear q1
     try clear hx1
     try clear p2
     try clear c6
     try clear p6
     try clear c7
     try clear c7b0
     try clear c8
     try clear c9
     try clear c13
     try clear c13b0
     try clear c14
     try clear c14b0
     try clear p15
     try clear q15
     try clear hx15
     try clear hf15
     try clear hcz10_0
     try clear hcz10_1
     try clear hcz16_0
     try clear hcz16_1
     try clear hfz10_0
     try clear hfz10_1
     try clear hfz16_0
     try clear hfz16_1
     try clear hx15_0
     try clear p15
     try clear p2
     try clear q15
     obtain ⟨x6_2, x7_2, x9_2, rfl, HA, HK2, HO_6, HO_7, BK0, HB⟩ := hrel
     have hl6_2 := (Kd.R_reads' HO_6.out).1
     rw [hl6_2] at HO_6
     (try simp only [hl6_2])
     (try simp only [hl6_2] at BK0)
     (try simp only [hl6_2] at HO_7)
     cases gk with
     | zero => exact absurd HA.out (by simp [spec_l30Reach.l1])
     | succ k2 =>
      have H := HA.out
      clear HA
      simp only [spec_l30Reach.l1] at H
      by_cases c19 : x9_2 = true
      ·subst c19
       have H1 : (spec_l30Reach.l2 k2 x6_2 x7_2 false 0 a0_0 l0_1) = some (r1, r2) := by rw [if_pos rfl] at H; exact H
       clear H
       have H := H1
       clear H1
       have H' := Aside0.mk H
       clear H
       go_wp2
       go_loopg [9, 10] k2 (fun kq v9 v10 w' => ∃ (x6_3 : List Int) (x7_3 : List Int) (x9_3 : Bool) (x10_3 : Int), v9 = .bool x9_3 ∧ v10 = .int .i64 x10_3 ∧ Aside0 (spec_l30Reach.l2 kq x6_3 x7_3 x9_3 x10_3 a0_0 l0_1 = some (r1, r2)) ∧ Aside0 (kq ≤ k2) ∧ Aside0 (Kd.R (Kd.int .i64) 2 w' w.heap.size (fun k_ => some k_ ≠ (u7 : Value).ownBlock) (.slice (some ⟨go15, 0, none⟩) x6_2.length co15) x6_3) ∧ Aside0 (Kd.R (Kd.int .i64) 2 w' w.heap.size (fun k_ => some k_ ≠ ((.slice (some ⟨go15, 0, none⟩) x6_2.length co15) : Value).ownBlock) u7 x7_3) ∧ Aside0 (w'.heap[g0]? = some (.cells #[.int .i64 a0_0, (.slice A0_1 l0_1.length c0_1)] 29 (0, 0))) ∧ Aside0 (Below w.heap.size w w'))
       case atStart => exact ⟨(x6_2), (x7_2), (false), (0), rs_, rs_, H', ⟨Nat.le_refl _⟩, ⟨by (try simp only [hl6_2]); (with_reducible repeat (first | apply Kd.R_alloc | apply Kd.R_drewN | apply Kd.R_drew)); exact HO_6.out⟩, ⟨by (try simp only [hl6_2]); (with_reducible repeat (first | apply Kd.R_alloc | apply Kd.R_drewN | apply Kd.R_drew)); exact HO_7.out⟩, ⟨by (try simp only [hl6_2]); (with_reducible repeat (first | refine blk_drewN ?_ _ | refine blk_drew ?_ | refine blk_alloc ?_ _)); exact BK0.out⟩, ⟨bl0_ HB.out⟩⟩
       case round =>
        clear H'
        try clear c1
        try clear p1
        try clear q1
        try clear hx1
        try clear p2
        try clear c6
        try clear p6
        try clear c7
        try clear c7b0
        try clear c8
        try clear c9
        try clear c13
        try clear c13b0
        try clear c14
        try clear c14b0
        try clear p15
        try clear q15
        try clear hx15
        try clear hf15
        try clear c19
        try clear hcz10_0
        try clear hcz10_1
        try clear hcz16_0
        try clear hcz16_1
        try clear hfz10_0
        try clear hfz10_1
        try clear hfz16_0
        try clear hfz16_1
        try clear hx15_0
        try clear p1
        try clear p15
        try clear p2
        try clear p6
        try clear q1
        try clear q15
        obtain ⟨x6_3, x7_3, x9_3, x10_3, rfl, rfl, HA, HK3, HO_6, HO_7, BK0, HB⟩ := hrel
        have hl6_3 := (Kd.R_reads' HO_6.out).1
        rw [hl6_3] at HO_6
        (try simp only [hl6_3])
        (try simp only [hl6_3] at BK0)
        (try simp only [hl6_3] at HO_7)
        cases gk with
        | zero => exact absurd HA.out (by simp [spec_l30Reach.l2])
        | succ k3 =>
         have H := HA.out
         clear HA
         simp only [spec_l30Reach.l2] at H
         by_cases c20 : x10_3 < (l0_1.length : Int)
         ·rw [if_pos c20] at H
          have c20b0 := decide_eq_true c20
          clear c20
          by_cases c21 : 0 ≤ x10_3
          rotate_left
          ·exact nope_ c21 H
          rw [if_pos c21] at H
          have c21b0 := decide_eq_true c21
          clear c21
          have HC22 := Aside0.mk H
          clear H
          have hcz23_0 : wr.cell? ⟨g0, 0, none⟩ = some (.int .i64 a0_0) := (blk_cell BK0.out 0).trans rfl
          have hcz23_1 : wr.cell? ⟨g0, 1, none⟩ = some (.slice A0_1 l0_1.length c0_1) := (blk_cell BK0.out 1).trans rfl
          have hfz23_0 := blk_frozen BK0.out 0
          have hfz23_1 := blk_frozen BK0.out 1
          have p147 : 0 ≤ (x10_3 : Int) := od_
          have q147 : x10_3 < (l0_1.length : Int) := od_
          obtain ⟨ad147, e147, hx147_0, hx147_1, hx147_2⟩ := at_T71 HR0_1.out x10_3 p147 q147
          cases e147
          replace hx147_0 := (HB.out.cell (World.block_lt_of_cell? w _ hx147_0)).trans hx147_0
          replace hx147_1 := (HB.out.cell (World.block_lt_of_cell? w _ hx147_1)).trans hx147_1
          replace hx147_2 := (HB.out.cell (World.block_lt_of_cell? w _ hx147_2)).trans hx147_2
          replace p147 := eq_true p147
          replace q147 := eq_true q147
          go_upto_region 16 with (first | ((with_reducible refine gate_dst (N := 11) rfl ?_); refine box_event ?hg (N := 11) ?hd (cs := #[.int .i64 0, .int .i64 0, .int .i64 0]) (t := 71) ?hr ?_; (case hd => rfl); (case hg => rfl); (case hr => first | (go_simp; done) | (go_simp; rfl)); intro gb148 hg w24 hbox hb; have n0_ := Aside0.mk (Kd.R_below (ra_ HO_6.out) hb); have n1_ := Aside0.mk (Kd.R_below (ra_ HO_7.out) hb); have n2_ := Aside0.mk (blk_below (g := g0) (o := .cells #[.int .i64 a0_0, .slice (some ad147) l0_1.length c0_1] 29 (0, 0)) (bk_ BK0.out) hb); have n3_ := Aside0.mk (below_step (bl0_ HB.out) hb); have n4_ := Aside0.mk (hbox); have n5_ := Aside0.mk ((by rw [hg]; exact (below_size (bl0_ HB.out)) : w.heap.size ≤ gb148)); have n6_ := Aside0.mk ((by rw [hg]; exact (below_size (bl0_ HB.out)) : w.heap.size ≤ gb148)); have n7_ := Aside0.mk ((by rw [hg]; exact Nat.ne_of_lt (blk_lt (g := g0) (o := .cells #[.int .i64 a0_0, .slice (some ad147) l0_1.length c0_1] 29 (0, 0)) (bk_ BK0.out)) : g0 ≠ gb148)); have n8_ := Aside0.mk ((by rw [hg]; exact Nat.ne_of_gt (blk_lt (g := g0) (o := .cells #[.int .i64 a0_0, .slice (some ad147) l0_1.length c0_1] 29 (0, 0)) (bk_ BK0.out)) : gb148 ≠ g0)); clear HO_6; clear HO_7; clear BK0; clear HB; have HO_6 := n0_; have HO_7 := n1_; have BK0 := n2_; have HB := n3_; have BK148 := n4_; have GW148 := n5_; have GE148 := n6_; have NB0_148 := n7_; have NB148_0 := n8_; clear n0_ n1_ n2_ n3_ n4_ n5_ n6_ n7_ n8_; clear hb hbox hg; have hnb25 := NB148_0.out; have hnc25 := NB0_148.out; have hcz26_0 : w24.cell? ⟨gb148, 0, none⟩ = some (.int .i64 0) := (blk_cell BK148.out 0).trans rfl; have hcz26_1 : w24.cell? ⟨gb148, 1, none⟩ = some (.int .i64 0) := (blk_cell BK148.out 1).trans rfl; have hcz26_2 : w24.cell? ⟨gb148, 2, none⟩ = some (.int .i64 0) := (blk_cell BK148.out 2).trans rfl; have hfz26_0 := blk_frozen BK148.out 0; have hfz26_1 := blk_frozen BK148.out 1; have hfz26_2 := blk_frozen BK148.out 2))
          (try simp only [Act.put, List.setIfInBounds_toArray, List.set_cons_zero, List.set_cons_succ])
          go_cut [61] (fun v61 wc => ∃ (kq : Nat) (x61_21 : Bool), v61 = .bool x61_21 ∧ Aside0 (spec_l30Reach.j3 kq x6_3 x7_3 x9_3 x10_3 x61_21 a0_0 l0_1 ((rd_T71 l0_1 x10_3).f0) ((rd_T71 l0_1 x10_3).f1) ((rd_T71 l0_1 x10_3).f2) = some (r1, r2)) ∧ Aside0 (kq ≤ k3) ∧ Aside0 (Kd.R (Kd.int .i64) 2 wc w.heap.size (fun k_ => some k_ ≠ (u7 : Value).ownBlock) (.slice (some ⟨go15, 0, none⟩) x6_3.length co15) x6_3) ∧ Aside0 (Kd.R (Kd.int .i64) 2 wc w.heap.size (fun k_ => some k_ ≠ ((.slice (some ⟨go15, 0, none⟩) x6_3.length co15) : Value).ownBlock) u7 x7_3) ∧ Aside0 (wc.heap[g0]? = some (.cells #[.int .i64 a0_0, (.slice (some ad147) l0_1.length c0_1)] 29 (0, 0))) ∧ Aside0 (wc.heap[gb148]? = some (.cells #[.int .i64 ((rd_T71 l0_1 x10_3).f0), .int .i64 ((rd_T71 l0_1 x10_3).f1), .int .i64 ((rd_T71 l0_1 x10_3).f2)] 71 (0, 0))) ∧ Aside0 (Below w.heap.size w wc))
          case first =>
           have H := HC22.out
           clear HC22
           by_cases c27 : 0 ≤ ((rd_T71 l0_1 x10_3).f0)
           rotate_left
           ·exact nope_ c27 H
           rw [if_pos c27] at H
           have c27b0 := decide_eq_true c27
           clear c27
           (first | rw [c27b0] | (simp only [i64_w, i32_w]; rw [c27b0]) | skip)
           by_cases c28 : ((rd_T71 l0_1 x10_3).f0) < (x6_3.length : Int)
           rotate_left
           ·exact nope_ c28 H
           rw [if_pos c28] at H
           have c28b0 := decide_eq_true c28
           clear c28
           by_cases c29 : (rd x6_3 ((rd_T71 l0_1 x10_3).f0)) < 0
           ·rw [if_pos c29] at H
            have c29b0 := decide_eq_true c29
            clear c29
            by_cases c30 : 0 ≤ ((rd_T71 l0_1 x10_3).f1)
            rotate_left
            ·exact nope_ c30 H
            rw [if_pos c30] at H
            have c30b0 := decide_eq_true c30
            clear c30
            by_cases c31 : ((rd_T71 l0_1 x10_3).f1) < (x6_3.length : Int)
            rotate_left
            ·exact nope_ c31 H
            rw [if_pos c31] at H
            have c31b0 := decide_eq_true c31
            clear c31
            have H' := Aside0.mk H
            clear H
            have hnb32 := NB148_0.out
            have hnc32 := NB0_148.out
            have hcz33_0 : w24.cell? ⟨gb148, 0, none⟩ = some (.int .i64 0) := (blk_cell BK148.out 0).trans rfl
            have hcz33_1 : w24.cell? ⟨gb148, 1, none⟩ = some (.int .i64 0) := (blk_cell BK148.out 1).trans rfl
            have hcz33_2 : w24.cell? ⟨gb148, 2, none⟩ = some (.int .i64 0) := (blk_cell BK148.out 2).trans rfl
            have hfz33_0 := blk_frozen BK148.out 0
            have hfz33_1 := blk_frozen BK148.out 1
            have hfz33_2 := blk_frozen BK148.out 2
            have p149 : 0 ≤ (((rd_T71 l0_1 x10_3).f0) : Int) := od_
            have q149 : ((rd_T71 l0_1 x10_3).f0) < (x6_3.length : Int) := od_
            obtain ⟨ad149, e149, hx149_0⟩ := Kd.at_int (Kd.R_reads' HO_6.out).2.2 ((rd_T71 l0_1 x10_3).f0) p149 q149
            obtain rfl : (⟨go15, 0, none⟩ : Addr) = ad149 := (by injection e149)
            (try first | simp only [add_plain] at hx149_0 | simp only [add_at] at hx149_0 | simp only [Addr.add, Nat.zero_add] at hx149_0)
            have hn149_0 : (⟨go15, 0, none⟩ : Addr).block ≠ gb148 := Kd.own_blk (Kd.R_ne HO_6.out BK148.out (by decide))
            have hn149_1 : (⟨go15, 0, none⟩ : Addr).block ≠ gb148 := Kd.own_blk (Kd.R_ne HO_6.out BK148.out (by decide))
            have hn149_2 : (⟨go15, 0, none⟩ : Addr).block ≠ gb148 := Kd.own_blk (Kd.R_ne HO_6.out BK148.out (by decide))
            replace hx149_0 := (cell_far (p := ⟨gb148, 0, none⟩) (ab_ hn149_0) (.int .i64 ((rd_T71 l0_1 x10_3).f0))).trans hx149_0
            replace hx149_0 := (cell_far (p := ⟨gb148, 1, none⟩) (ab_ hn149_1) (.int .i64 ((rd_T71 l0_1 x10_3).f1))).trans hx149_0
            replace hx149_0 := (cell_far (p := ⟨gb148, 2, none⟩) (ab_ hn149_2) (.int .i64 ((rd_T71 l0_1 x10_3).f2))).trans hx149_0
            clear hn149_0
            clear hn149_1
            clear hn149_2
            replace p149 := eq_true p149
            replace q149 := eq_true q149
            have p150 : 0 ≤ (((rd_T71 l0_1 x10_3).f1) : Int) := od_
            have q150 : ((rd_T71 l0_1 x10_3).f1) < (x6_3.length : Int) := od_
            obtain ⟨ad150, e150, hx150_0⟩ := Kd.at_int (Kd.R_reads' HO_6.out).2.2 ((rd_T71 l0_1 x10_3).f1) p150 q150
            obtain rfl : (⟨go15, 0, none⟩ : Addr) = ad150 := (by injection e150)
            (try first | simp only [add_plain] at hx150_0 | simp only [add_at] at hx150_0 | simp only [Addr.add, Nat.zero_add] at hx150_0)
            have hn150_0 : (⟨go15, 0, none⟩ : Addr).block ≠ gb148 := Kd.own_blk (Kd.R_ne HO_6.out BK148.out (by decide))
            have hn150_1 : (⟨go15, 0, none⟩ : Addr).block ≠ gb148 := Kd.own_blk (Kd.R_ne HO_6.out BK148.out (by decide))
            have hn150_2 : (⟨go15, 0, none⟩ : Addr).block ≠ gb148 := Kd.own_blk (Kd.R_ne HO_6.out BK148.out (by decide))
            replace hx150_0 := (cell_far (p := ⟨gb148, 0, none⟩) (ab_ hn150_0) (.int .i64 ((rd_T71 l0_1 x10_3).f0))).trans hx150_0
            replace hx150_0 := (cell_far (p := ⟨gb148, 1, none⟩) (ab_ hn150_1) (.int .i64 ((rd_T71 l0_1 x10_3).f1))).trans hx150_0
            replace hx150_0 := (cell_far (p := ⟨gb148, 2, none⟩) (ab_ hn150_2) (.int .i64 ((rd_T71 l0_1 x10_3).f2))).trans hx150_0
            clear hn150_0
            clear hn150_1
            clear hn150_2
            replace p150 := eq_true p150
            replace q150 := eq_true q150
            go_wp2
            go_meet
            case rel => exact ⟨_, (decide ((rd x6_3 ((rd_T71 l0_1 x10_3).f1)) ≥ 0)), rs_, H', ⟨by have := HK1.out; have := HK2.out; have := HK3.out; first | omega | exact Nat.le_refl _⟩, ⟨by (try simp only [hl6_2]); (try simp only [hl6_3]); (with_reducible repeat (first | apply Kd.R_alloc | apply Kd.R_drewN | apply Kd.R_drew)); exact Kd.R_mono (Kd.R_far (p := ⟨gb148, 2, none⟩) (Kd.R_far (p := ⟨gb148, 1, none⟩) (Kd.R_far (p := ⟨gb148, 0, none⟩) (Kd.R_types HO_6.out BK148.out (by decide)) (fun _ hk => hk.2) (.int .i64 ((rd_T71 l0_1 x10_3).f0))) (fun _ hk => hk.2) (.int .i64 ((rd_T71 l0_1 x10_3).f1))) (fun _ hk => hk.2) (.int .i64 ((rd_T71 l0_1 x10_3).f2))) (fun _ hk => hk.1)⟩, ⟨by (try simp only [hl6_2]); (try simp only [hl6_3]); (with_reducible repeat (first | apply Kd.R_alloc | apply Kd.R_drewN | apply Kd.R_drew)); exact Kd.R_mono (Kd.R_far (p := ⟨gb148, 2, none⟩) (Kd.R_far (p := ⟨gb148, 1, none⟩) (Kd.R_far (p := ⟨gb148, 0, none⟩) (Kd.R_types HO_7.out BK148.out (by decide)) (fun _ hk => hk.2) (.int .i64 ((rd_T71 l0_1 x10_3).f0))) (fun _ hk => hk.2) (.int .i64 ((rd_T71 l0_1 x10_3).f1))) (fun _ hk => hk.2) (.int .i64 ((rd_T71 l0_1 x10_3).f2))) (fun _ hk => hk.1)⟩, ⟨by (try simp only [hl6_2]); (try simp only [hl6_3]); (with_reducible repeat (first | refine blk_drewN ?_ _ | refine blk_drew ?_ | refine blk_alloc ?_ _)); refine blk_far ?_ NB0_148.out _; (with_reducible repeat (first | refine blk_drewN ?_ _ | refine blk_drew ?_ | refine blk_alloc ?_ _)); refine blk_far ?_ NB0_148.out _; (with_reducible repeat (first | refine blk_drewN ?_ _ | refine blk_drew ?_ | refine blk_alloc ?_ _)); refine blk_far ?_ NB0_148.out _; (with_reducible repeat (first | refine blk_drewN ?_ _ | refine blk_drew ?_ | refine blk_alloc ?_ _)); exact BK0.out⟩, ⟨by (try simp only [hl6_2]); (try simp only [hl6_3]); (with_reducible repeat (first | refine blk_drewN ?_ _ | refine blk_drew ?_ | refine blk_alloc ?_ _)); refine blk_put (cs := #[.int .i64 ((rd_T71 l0_1 x10_3).f0), .int .i64 ((rd_T71 l0_1 x10_3).f1), .int .i64 0]) ?_ 2 _ rfl; (with_reducible repeat (first | refine blk_drewN ?_ _ | refine blk_drew ?_ | refine blk_alloc ?_ _)); refine blk_put (cs := #[.int .i64 ((rd_T71 l0_1 x10_3).f0), .int .i64 0, .int .i64 0]) ?_ 1 _ rfl; (with_reducible repeat (first | refine blk_drewN ?_ _ | refine blk_drew ?_ | refine blk_alloc ?_ _)); refine blk_put (cs := #[.int .i64 0, .int .i64 0, .int .i64 0]) ?_ 0 _ rfl; (with_reducible repeat (first | refine blk_drewN ?_ _ | refine blk_drew ?_ | refine blk_alloc ?_ _)); exact BK148.out⟩, ⟨bl1_ HB.out GE148.out⟩⟩
           ·rw [if_neg c29] at H
            have c29b0 := decide_eq_false c29
            clear c29
            have H' := Aside0.mk H
            clear H
            have hnb34 := NB148_0.out
            have hnc34 := NB0_148.out
            have hcz35_0 : w24.cell? ⟨gb148, 0, none⟩ = some (.int .i64 0) := (blk_cell BK148.out 0).trans rfl
            have hcz35_1 : w24.cell? ⟨gb148, 1, none⟩ = some (.int .i64 0) := (blk_cell BK148.out 1).trans rfl
            have hcz35_2 : w24.cell? ⟨gb148, 2, none⟩ = some (.int .i64 0) := (blk_cell BK148.out 2).trans rfl
            have hfz35_0 := blk_frozen BK148.out 0
            have hfz35_1 := blk_frozen BK148.out 1
            have hfz35_2 := blk_frozen BK148.out 2
            have p149 : 0 ≤ (((rd_T71 l0_1 x10_3).f0) : Int) := od_
            have q149 : ((rd_T71 l0_1 x10_3).f0) < (x6_3.length : Int) := od_
            obtain ⟨ad149, e149, hx149_0⟩ := Kd.at_int (Kd.R_reads' HO_6.out).2.2 ((rd_T71 l0_1 x10_3).f0) p149 q149
            obtain rfl : (⟨go15, 0, none⟩ : Addr) = ad149 := (by injection e149)
            (try first | simp only [add_plain] at hx149_0 | simp only [add_at] at hx149_0 | simp only [Addr.add, Nat.zero_add] at hx149_0)
            have hn149_0 : (⟨go15, 0, none⟩ : Addr).block ≠ gb148 := Kd.own_blk (Kd.R_ne HO_6.out BK148.out (by decide))
            have hn149_1 : (⟨go15, 0, none⟩ : Addr).block ≠ gb148 := Kd.own_blk (Kd.R_ne HO_6.out BK148.out (by decide))
            have hn149_2 : (⟨go15, 0, none⟩ : Addr).block ≠ gb148 := Kd.own_blk (Kd.R_ne HO_6.out BK148.out (by decide))
            replace hx149_0 := (cell_far (p := ⟨gb148, 0, none⟩) (ab_ hn149_0) (.int .i64 ((rd_T71 l0_1 x10_3).f0))).trans hx149_0
            replace hx149_0 := (cell_far (p := ⟨gb148, 1, none⟩) (ab_ hn149_1) (.int .i64 ((rd_T71 l0_1 x10_3).f1))).trans hx149_0
            replace hx149_0 := (cell_far (p := ⟨gb148, 2, none⟩) (ab_ hn149_2) (.int .i64 ((rd_T71 l0_1 x10_3).f2))).trans hx149_0
            clear hn149_0
            clear hn149_1
            clear hn149_2
            replace p149 := eq_true p149
            replace q149 := eq_true q149
            go_wp2
            go_meet
            case rel => exact ⟨_, (false), rs_, H', ⟨by have := HK1.out; have := HK2.out; have := HK3.out; first | omega | exact Nat.le_refl _⟩, ⟨by (try simp only [hl6_2]); (try simp only [hl6_3]); (with_reducible repeat (first | apply Kd.R_alloc | apply Kd.R_drewN | apply Kd.R_drew)); exact Kd.R_mono (Kd.R_far (p := ⟨gb148, 2, none⟩) (Kd.R_far (p := ⟨gb148, 1, none⟩) (Kd.R_far (p := ⟨gb148, 0, none⟩) (Kd.R_types HO_6.out BK148.out (by decide)) (fun _ hk => hk.2) (.int .i64 ((rd_T71 l0_1 x10_3).f0))) (fun _ hk => hk.2) (.int .i64 ((rd_T71 l0_1 x10_3).f1))) (fun _ hk => hk.2) (.int .i64 ((rd_T71 l0_1 x10_3).f2))) (fun _ hk => hk.1)⟩, ⟨by (try simp only [hl6_2]); (try simp only [hl6_3]); (with_reducible repeat (first | apply Kd.R_alloc | apply Kd.R_drewN | apply Kd.R_drew)); exact Kd.R_mono (Kd.R_far (p := ⟨gb148, 2, none⟩) (Kd.R_far (p := ⟨gb148, 1, none⟩) (Kd.R_far (p := ⟨gb148, 0, none⟩) (Kd.R_types HO_7.out BK148.out (by decide)) (fun _ hk => hk.2) (.int .i64 ((rd_T71 l0_1 x10_3).f0))) (fun _ hk => hk.2) (.int .i64 ((rd_T71 l0_1 x10_3).f1))) (fun _ hk => hk.2) (.int .i64 ((rd_T71 l0_1 x10_3).f2))) (fun _ hk => hk.1)⟩, ⟨by (try simp only [hl6_2]); (try simp only [hl6_3]); (with_reducible repeat (first | refine blk_drewN ?_ _ | refine blk_drew ?_ | refine blk_alloc ?_ _)); refine blk_far ?_ NB0_148.out _; (with_reducible repeat (first | refine blk_drewN ?_ _ | refine blk_drew ?_ | refine blk_alloc ?_ _)); refine blk_far ?_ NB0_148.out _; (with_reducible repeat (first | refine blk_drewN ?_ _ | refine blk_drew ?_ | refine blk_alloc ?_ _)); refine blk_far ?_ NB0_148.out _; (with_reducible repeat (first | refine blk_drewN ?_ _ | refine blk_drew ?_ | refine blk_alloc ?_ _)); exact BK0.out⟩, ⟨by (try simp only [hl6_2]); (try simp only [hl6_3]); (with_reducible repeat (first | refine blk_drewN ?_ _ | refine blk_drew ?_ | refine blk_alloc ?_ _)); refine blk_put (cs := #[.int .i64 ((rd_T71 l0_1 x10_3).f0), .int .i64 ((rd_T71 l0_1 x10_3).f1), .int .i64 0]) ?_ 2 _ rfl; (with_reducible repeat (first | refine blk_drewN ?_ _ | refine blk_drew ?_ | refine blk_alloc ?_ _)); refine blk_put (cs := #[.int .i64 ((rd_T71 l0_1 x10_3).f0), .int .i64 0, .int .i64 0]) ?_ 1 _ rfl; (with_reducible repeat (first | refine blk_drewN ?_ _ | refine blk_drew ?_ | refine blk_alloc ?_ _)); refine blk_put (cs := #[.int .i64 0, .int .i64 0, .int .i64 0]) ?_ 0 _ rfl; (with_reducible repeat (first | refine blk_drewN ?_ _ | refine blk_drew ?_ | refine blk_alloc ?_ _)); exact BK148.out⟩, ⟨bl1_ HB.out GE148.out⟩⟩
          case rest =>
           clear HC22
           try clear c1
           try clear p1
           try clear q1
           try clear hx1
           try clear c2
           try clear p2
           try clear c3
           try clear c6
           try clear p6
           try clear c7
           try clear c7b0
           try clear c8
           try clear c9
           try clear c13
           try clear c13b0
           try clear c14
           try clear c14b0
           try clear p14
           try clear q14
           try clear hx14
           try clear p15
           try clear q15
           try clear hx15
           try clear hf15
           try clear c19
           try clear c20
           try clear c20b0
           try clear c21
           try clear c21b0
           try clear c25
           try clear c27
           try clear c27b0
           try clear c28
           try clear c28b0
           try clear c29
           try clear c29b0
           try clear c30
           try clear c30b0
           try clear c31
           try clear c31b0
           try clear c32
           try clear c34
           try clear hcz10_0
           try clear hcz10_1
           try clear hcz16_0
           try clear hcz16_1
           try clear hcz23_0
           try clear hcz23_1
           try clear hcz26_0
           try clear hcz26_1
           try clear hcz26_2
           try clear hcz33_0
           try clear hcz33_1
           try clear hcz33_2
           try clear hcz35_0
           try clear hcz35_1
           try clear hcz35_2
           try clear hfz10_0
           try clear hfz10_1
           try clear hfz16_0
           try clear hfz16_1
           try clear hfz23_0
           try clear hfz23_1
           try clear hfz26_0
           try clear hfz26_1
           try clear hfz26_2
           try clear hfz33_0
           try clear hfz33_1
           try clear hfz33_2
           try clear hfz35_0
           try clear hfz35_1
           try clear hfz35_2
           try clear hx147_0
           try clear hx147_1
           try clear hx147_2
           try clear hx149_0
           try clear hx150_0
           try clear hx15_0
           try clear p1
           try clear p147
           try clear p149
           try clear p15
           try clear p150
           try clear p2
           try clear p6
           try clear q1
           try clear q147
           try clear q149
           try clear q15
           try clear q150
           obtain ⟨kq, x61_21, rfl, HA, HJ21, HO_6, HO_7, BK0, BK148, HB⟩ := hcut
           cases kq with
           | zero => exact absurd HA.out (by simp [spec_l30Reach.j3])
           | succ kj21 =>
            have H := HA.out
            clear HA
            simp only [spec_l30Reach.j3] at H
            by_cases c36 : x61_21 = true
            ·subst c36
             have H1 : (if 0 ≤ ((rd_T71 l0_1 x10_3).f1) then (if ((rd_T71 l0_1 x10_3).f1) < (x6_3.length : Int) then (if 0 ≤ ((rd_T71 l0_1 x10_3).f0) then (if ((rd_T71 l0_1 x10_3).f0) < (x6_3.length : Int) then (if ((rd_T71 l0_1 x10_3).f0) < (x7_3.length : Int) then (spec_l30Reach.l2 kj21 (x6_3.set (((rd_T71 l0_1 x10_3).f0) : Int).toNat (wrap64 ((rd x6_3 ((rd_T71 l0_1 x10_3).f1)) + ((rd_T71 l0_1 x10_3).f2)))) (x7_3.set (((rd_T71 l0_1 x10_3).f0) : Int).toNat ((rd_T71 l0_1 x10_3).f1)) true (wrap64 (x10_3 + 1)) a0_0 l0_1) else (none)) else (none)) else (none)) else (none)) else (none)) = some (r1, r2) := by rw [if_pos rfl] at H; exact H
             clear H
             have H := H1
             clear H1
             by_cases c37 : 0 ≤ ((rd_T71 l0_1 x10_3).f1)
             rotate_left
             ·exact nope_ c37 H
             rw [if_pos c37] at H
             have c37b0 := decide_eq_true c37
             clear c37
             by_cases c38 : ((rd_T71 l0_1 x10_3).f1) < (x6_3.length : Int)
             rotate_left
             ·exact nope_ c38 H
             rw [if_pos c38] at H
             have c38b0 := decide_eq_true c38
             clear c38
             by_cases c39 : 0 ≤ ((rd_T71 l0_1 x10_3).f0)
             rotate_left
             ·exact nope_ c39 H
             rw [if_pos c39] at H
             have c39b0 := decide_eq_true c39
             clear c39
             by_cases c40 : ((rd_T71 l0_1 x10_3).f0) < (x6_3.length : Int)
             rotate_left
             ·exact nope_ c40 H
             rw [if_pos c40] at H
             have c40b0 := decide_eq_true c40
             clear c40
             obtain ⟨y152, hy152⟩ : ∃ y_ : List Int, y_ = (x6_3.set (((rd_T71 l0_1 x10_3).f0) : Int).toNat (wrap64 ((rd x6_3 ((rd_T71 l0_1 x10_3).f1)) + ((rd_T71 l0_1 x10_3).f2)))) := ⟨_, rfl⟩
             replace H : (if ((rd_T71 l0_1 x10_3).f0) < (x7_3.length : Int) then (spec_l30Reach.l2 kj21 y152 (x7_3.set (((rd_T71 l0_1 x10_3).f0) : Int).toNat ((rd_T71 l0_1 x10_3).f1)) true (wrap64 (x10_3 + 1)) a0_0 l0_1) else (none)) = some (r1, r2) := yh_ H hy152
             have Ny152 := Aside0.mk hy152
             clear hy152
             by_cases c42 : ((rd_T71 l0_1 x10_3).f0) < (x7_3.length : Int)
             rotate_left
             ·exact nope_ c42 H
             rw [if_pos c42] at H
             have c42b0 := decide_eq_true c42
             clear c42
             obtain ⟨y153, hy153⟩ : ∃ y_ : List Int, y_ = (x7_3.set (((rd_T71 l0_1 x10_3).f0) : Int).toNat ((rd_T71 l0_1 x10_3).f1)) := ⟨_, rfl⟩
             replace H : (spec_l30Reach.l2 kj21 y152 y153 true (wrap64 (x10_3 + 1)) a0_0 l0_1) = some (r1, r2) := yh_ H hy153
             have Ny153 := Aside0.mk hy153
             clear hy153
             have H' := Aside0.mk H
             clear H
             try go_wp2
             have n0_ := Aside0.mk (Kd.R_drew HO_6.out)
             have n1_ := Aside0.mk (Kd.R_drew HO_7.out)
             have n2_ := Aside0.mk (blk_drew BK0.out)
             have n3_ := Aside0.mk (blk_drew BK148.out)
             have n4_ := Aside0.mk (below_drew1 HB.out)
             clear HO_6
             clear HO_7
             clear BK0
             clear BK148
             clear HB
             have HO_6 := n0_
             have HO_7 := n1_
             have BK0 := n2_
             have BK148 := n3_
             have HB := n4_
             clear n0_ n1_ n2_ n3_ n4_
             have p151 : 0 ≤ (((rd_T71 l0_1 x10_3).f1) : Int) := od_
             have q151 : ((rd_T71 l0_1 x10_3).f1) < (x6_3.length : Int) := od_
             obtain ⟨ad151, e151, hx151_0⟩ := Kd.at_int (Kd.R_reads' HO_6.out).2.2 ((rd_T71 l0_1 x10_3).f1) p151 q151
             obtain rfl : (⟨go15, 0, none⟩ : Addr) = ad151 := (by injection e151)
             (try first | simp only [add_plain] at hx151_0 | simp only [add_at] at hx151_0 | simp only [Addr.add, Nat.zero_add] at hx151_0)
             replace p151 := eq_true p151
             replace q151 := eq_true q151
             have p41 : 0 ≤ (((rd_T71 l0_1 x10_3).f0) : Int) := od_
             have q41 : (((rd_T71 l0_1 x10_3).f0) : Int) < ((x6_3.length : Int) : Int) := od_
             obtain ⟨hx41_0, hf41_0⟩ := Kd.R_celln 0 HO_6.out (((rd_T71 l0_1 x10_3).f0) : Int) p41 q41
             replace p41 := eq_true p41
             replace q41 := eq_true q41
             have HP45 := Kd.R_putn HO_6.out (((rd_T71 l0_1 x10_3).f0) : Int) (wrap64 ((rd x6_3 ((rd_T71 l0_1 x10_3).f1)) + ((rd_T71 l0_1 x10_3).f2)))
             rw [← Ny152.out] at HP45
             have HQ45 := Aside0.mk HP45
             clear HP45
             refine start_ (n := 13) (S := fun w' => w'.cell? ⟨gb148, 0, none⟩ = some (.int .i64 ((rd_T71 l0_1 x10_3).f0)) ∧ w'.cell? ⟨gb148, 1, none⟩ = some (.int .i64 ((rd_T71 l0_1 x10_3).f1)) ∧ w'.cell? ⟨gb148, 2, none⟩ = some (.int .i64 ((rd_T71 l0_1 x10_3).f2)) ∧ w'.cell? ⟨go15, (((rd_T71 l0_1 x10_3).f1)).toNat, none⟩ = some (.int .i64 (rd x6_3 ((rd_T71 l0_1 x10_3).f1)))) (ds := [12]) #[false,false,false,false,false,false,false,false,false,false,false,false,false] (by kernel_rfl) rfl rfl ⟨(blk_cell BK148.out 0).trans rfl, (blk_cell BK148.out 1).trans rfl, (blk_cell BK148.out 2).trans rfl, hx151_0⟩ (fun hHeld => ?_); refine with_tabW spec_l30Reach.tab17 spec_l30Reach.bits17 (fun HT_ HW_ => ?_)
             generalize wc.drew = w44 at HO_6 HO_7 BK0 BK148 HB HQ45 hf41_0 hx151_0 hx41_0 hHeld ⊢
             refine puz_ 0 (some 62) #[true,false,false,false,false,false,false,false,false,false,false,false,false] rfl rfl (any_of HT_.out (by kernel_rfl)) ?_
             refine puz_ 1 (some 63) #[true,true,false,false,false,false,false,false,false,false,false,false,false] rfl rfl (any_of HT_.out (by kernel_rfl)) ?_
             refine puz_ 3 (some 65) #[true,true,false,true,false,false,false,false,false,false,false,false,false] rfl rfl (any_of HT_.out (by kernel_rfl)) ?_
             refine puz_ 4 (some 66) #[true,true,false,true,true,false,false,false,false,false,false,false,false] rfl rfl (any_of HT_.out (by kernel_rfl)) ?_
             refine puz_ 8 (some 70) #[true,true,false,true,true,false,false,false,true,false,false,false,false] rfl rfl (any_of HT_.out (by kernel_rfl)) ?_
             refine tkz_ 2 (some 64) #[true,true,true,true,true,false,false,false,true,false,false,false,false] rfl rfl (take_ofW HT_.out HW_.out (by kernel_rfl)) hHeld ?_
             refine tkz_ 5 (some 67) #[true,true,true,true,true,true,false,false,true,false,false,false,false] rfl rfl (take_ofW HT_.out HW_.out (by kernel_rfl)) hHeld ?_
             refine puz_ 6 (some 68) #[true,true,true,true,true,true,true,false,true,false,false,false,false] rfl rfl (any_of HT_.out (by kernel_rfl)) ?_
             refine tkz_ 7 (some 69) #[true,true,true,true,true,true,true,true,true,false,false,false,false] rfl rfl (take_ofW HT_.out HW_.out (by kernel_rfl)) hHeld ?_
             refine tkz_ 9 (some 71) #[true,true,true,true,true,true,true,true,true,true,false,false,false] rfl rfl (take_ofW HT_.out HW_.out (by kernel_rfl)) hHeld ?_
             refine puz_ 10 (some 72) #[true,true,true,true,true,true,true,true,true,true,true,false,false] rfl rfl (any_of HT_.out (by kernel_rfl)) ?_
             refine puz_ 11 (some 73) #[true,true,true,true,true,true,true,true,true,true,true,true,false] rfl rfl (any_of HT_.out (by kernel_rfl)) ?_
             refine last_ (i := 12) (N := none) #[true,true,true,true,true,true,true,true,true,true,true,true,true] rfl rfl (one_of HT_.out (by kernel_rfl)) (by decide) (fun K hK => ?_)
             refine skip_ (w1 := ?_) (by rfl) rfl ?_ ?_
             rotate_left
             ·go_simp
              rfl
             refine hK.out _ _ ?_
             clear hK K
             refine done_ (done_of HT_.out (by kernel_rfl)) ?_
             have n0_ : Aside0 (Kd.R (Kd.int .i64) 2 (w44.setCell ⟨go15, (((rd_T71 l0_1 x10_3).f0) : Int).toNat, none⟩ (.int .i64 (wrap64 ((rd x6_3 ((rd_T71 l0_1 x10_3).f1)) + ((rd_T71 l0_1 x10_3).f2))))) w.heap.size (fun k_ => some k_ ≠ (u7 : Value).ownBlock) (.slice (some ⟨go15, 0, none⟩) x6_3.length co15) y152) := ⟨by (with_reducible repeat (first | apply Kd.R_alloc | apply Kd.R_drewN | apply Kd.R_drew)); exact HQ45.out⟩
             have n1_ : Aside0 (Kd.R (Kd.int .i64) 2 (w44.setCell ⟨go15, (((rd_T71 l0_1 x10_3).f0) : Int).toNat, none⟩ (.int .i64 (wrap64 ((rd x6_3 ((rd_T71 l0_1 x10_3).f1)) + ((rd_T71 l0_1 x10_3).f2))))) w.heap.size (fun k_ => some k_ ≠ (.slice (some ⟨go15, 0, none⟩) x6_3.length co15 : Value).ownBlock) u7 x7_3) := ⟨by (with_reducible repeat (first | apply Kd.R_alloc | apply Kd.R_drewN | apply Kd.R_drew)); exact Kd.R_mono (Kd.R_far (p := ⟨go15, (((rd_T71 l0_1 x10_3).f0) : Int).toNat, none⟩) (Kd.R_mono HO_7.out (fun k_ hk => (⟨hk, fun e_ => hk (by rw [e_]; rfl)⟩ : _ ∧ k_ ≠ go15))) (fun _ hk => hk.2) (.int .i64 (wrap64 ((rd x6_3 ((rd_T71 l0_1 x10_3).f1)) + ((rd_T71 l0_1 x10_3).f2))))) (fun _ hk => hk.1)⟩
             have n2_ : Aside0 ((w44.setCell ⟨go15, (((rd_T71 l0_1 x10_3).f0) : Int).toNat, none⟩ (.int .i64 (wrap64 ((rd x6_3 ((rd_T71 l0_1 x10_3).f1)) + ((rd_T71 l0_1 x10_3).f2))))).heap[g0]? = some (.cells #[.int .i64 a0_0, .slice (some ad147) l0_1.length c0_1] 29 (0, 0))) := ⟨by (with_reducible repeat (first | refine blk_drewN ?_ _ | refine blk_drew ?_ | refine blk_alloc ?_ _)); refine blk_far ?_ (by have h_ := Kd.R_ne HO_6.out BK0.out (by decide); intro e_; exact h_ (by rw [e_]; rfl)) _; (with_reducible repeat (first | refine blk_drewN ?_ _ | refine blk_drew ?_ | refine blk_alloc ?_ _)); exact BK0.out⟩
             have n3_ : Aside0 ((w44.setCell ⟨go15, (((rd_T71 l0_1 x10_3).f0) : Int).toNat, none⟩ (.int .i64 (wrap64 ((rd x6_3 ((rd_T71 l0_1 x10_3).f1)) + ((rd_T71 l0_1 x10_3).f2))))).heap[gb148]? = some (.cells #[.int .i64 ((rd_T71 l0_1 x10_3).f0), .int .i64 ((rd_T71 l0_1 x10_3).f1), .int .i64 ((rd_T71 l0_1 x10_3).f2)] 71 (0, 0))) := ⟨by (with_reducible repeat (first | refine blk_drewN ?_ _ | refine blk_drew ?_ | refine blk_alloc ?_ _)); refine blk_far ?_ (by have h_ := Kd.R_ne HO_6.out BK148.out (by decide); intro e_; exact h_ (by rw [e_]; rfl)) _; (with_reducible repeat (first | refine blk_drewN ?_ _ | refine blk_drew ?_ | refine blk_alloc ?_ _)); exact BK148.out⟩
             have n4_ : Aside0 (Below w.heap.size w (w44.setCell ⟨go15, (((rd_T71 l0_1 x10_3).f0) : Int).toNat, none⟩ (.int .i64 (wrap64 ((rd x6_3 ((rd_T71 l0_1 x10_3).f1)) + ((rd_T71 l0_1 x10_3).f2)))))) := ⟨by repeat (first | (with_reducible first | exact HB.out | apply below_alloc | apply pw_below_drewN | apply below_drew1 | refine below_set ?_ GB15.out | refine below_set ?_ GE148.out) | exact HB.out)⟩
             (try clear HO_6)
             (try clear HO_7)
             (try clear BK0)
             (try clear BK148)
             (try clear HB)
             generalize (w44.setCell ⟨go15, (((rd_T71 l0_1 x10_3).f0) : Int).toNat, none⟩ (.int .i64 (wrap64 ((rd x6_3 ((rd_T71 l0_1 x10_3).f1)) + ((rd_T71 l0_1 x10_3).f2))))) = w46 at n0_ n1_ n2_ n3_ n4_ ⊢
             have HO_6 := n0_
             have HO_7 := n1_
             have BK0 := n2_
             have BK148 := n3_
             have HB := n4_
             clear n0_ n1_ n2_ n3_ n4_
             have hnb47 := NB148_0.out
             have hnc47 := NB0_148.out
             have hcz48_0 : w46.cell? ⟨gb148, 0, none⟩ = some (.int .i64 ((rd_T71 l0_1 x10_3).f0)) := (blk_cell BK148.out 0).trans rfl
             have hcz48_1 : w46.cell? ⟨gb148, 1, none⟩ = some (.int .i64 ((rd_T71 l0_1 x10_3).f1)) := (blk_cell BK148.out 1).trans rfl
             have hcz48_2 : w46.cell? ⟨gb148, 2, none⟩ = some (.int .i64 ((rd_T71 l0_1 x10_3).f2)) := (blk_cell BK148.out 2).trans rfl
             have hfz48_0 := blk_frozen BK148.out 0
             have hfz48_1 := blk_frozen BK148.out 1
             have hfz48_2 := blk_frozen BK148.out 2
             have p43 : 0 ≤ (((rd_T71 l0_1 x10_3).f0) : Int) := od_
             have q43 : (((rd_T71 l0_1 x10_3).f0) : Int) < ((x7_3.length : Int) : Int) := od_
             obtain ⟨go43, co43, eo43, gb43, gl43, cl43, HG43⟩ := Kd.R_form HO_7.out (by omega)
             (first | cases eo43 | (injection eo43 with ea_ en_ ec_; (first | subst ea_ | (injection ea_ with ea_; subst ea_)); subst ec_; clear en_))
             have GB43 := Aside0.mk gb43
             have GG43 := Aside0.mk HG43
             clear gb43 gl43 HG43
             obtain ⟨hx43_0, hf43_0⟩ := Kd.R_celln 0 HO_7.out (((rd_T71 l0_1 x10_3).f0) : Int) p43 q43
             replace p43 := eq_true p43
             replace q43 := eq_true q43
             obtain ⟨hy49_, hz49_⟩ := Kd.R_celln 0 HO_7.out (((rd_T71 l0_1 x10_3).f0) : Int) (od_) (od_)
             have HP49 := Kd.R_putg HO_7.out (((rd_T71 l0_1 x10_3).f0) : Int) ((rd_T71 l0_1 x10_3).f1)
             try go_wp2_with (first | ((with_reducible refine gate_store (t := 2) (p := 79) rfl ?_); refine store_event (t := 2) (p := 79) (v := ?vo_w50) (w1 := (w46.setCell ⟨go43, (((rd_T71 l0_1 x10_3).f0) : Int).toNat, none⟩ (.int .i64 ((rd_T71 l0_1 x10_3).f1)))) ?hg ?ho ?hn ?hr ?_; (case ho => rfl); (case hg => rfl); (case hn => rfl); (case hr => first | (go_simp; done) | (go_simp; rfl)); intro w50 hw; have hg : w46.grownBy w50 (some go43) := (by rw [hw]; exact HP49.2); have hp_ : Kd.R (Kd.int .i64) 2 w50 w.heap.size (fun k_ => some k_ ≠ (.slice (some ⟨go15, 0, none⟩) x6_3.length co15 : Value).ownBlock) (.slice (some ⟨go43, 0, none⟩) x7_3.length co43) y153 := (by rw [hw, Ny153.out]; exact HP49.1); clear HP49; have n0_ := Aside0.mk (Kd.R_after (v := (.slice (some ⟨go43, 0, none⟩) x7_3.length co43)) (v1 := (.slice (some ⟨go43, 0, none⟩) x7_3.length co43)) (ok := (fun _ => True)) (by (with_reducible repeat (first | apply Kd.R_alloc | apply Kd.R_drewN | apply Kd.R_drew)); exact Kd.R_mono HO_6.out (fun _ hk => ⟨trivial, hk⟩)) hg (.inl rfl)); have n1_ := Aside0.mk (hp_); have n2_ := Aside0.mk (blk_grown (g := g0) (o := .cells #[.int .i64 a0_0, .slice (some ad147) l0_1.length c0_1] 29 (0, 0)) (bk_ BK0.out) hg (Kd.R_ne HO_7.out BK0.out (by decide))); have n3_ := Aside0.mk (blk_grown (g := gb148) (o := .cells #[.int .i64 ((rd_T71 l0_1 x10_3).f0), .int .i64 ((rd_T71 l0_1 x10_3).f1), .int .i64 ((rd_T71 l0_1 x10_3).f2)] 71 (0, 0)) (bk_ BK148.out) hg (Kd.R_ne HO_7.out BK148.out (by decide))); have n4_ := Aside0.mk ((by rw [hw]; exact below_set (HB.out) GB43.out : Below w.heap.size w w50)); clear HO_6; clear HO_7; clear BK0; clear BK148; clear HB; have HO_6 := n0_; have HO_7 := n1_; have BK0 := n2_; have BK148 := n3_; have HB := n4_; clear n0_ n1_ n2_ n3_ n4_; clear hg hw hp_))
             (try simp only [← hl6_3])
             go_roundg kj21
             case measure => have := HK1.out; have := HK2.out; have := HK3.out; have := HJ21.out; omega
             case rel => exact ⟨(y152), (y153), (true), (wrap64 (x10_3 + 1)), rs_, rs_, H', ⟨by have := HK1.out; have := HK2.out; have := HK3.out; have := HJ21.out; omega⟩, ⟨by (try simp only [hl6_2]); (try simp only [hl6_3]); (with_reducible repeat (first | apply Kd.R_alloc | apply Kd.R_drewN | apply Kd.R_drew)); exact Kd.R_mono HO_6.out (fun _ hk => hk.2)⟩, ⟨by (try simp only [hl6_2]); (try simp only [hl6_3]); (with_reducible repeat (first | apply Kd.R_alloc | apply Kd.R_drewN | apply Kd.R_drew)); exact HO_7.out⟩, ⟨by (try simp only [hl6_2]); (try simp only [hl6_3]); (with_reducible repeat (first | refine blk_drewN ?_ _ | refine blk_drew ?_ | refine blk_alloc ?_ _)); exact BK0.out⟩, ⟨bl1_ HB.out GE148.out⟩⟩
            ·replace c36 := Bool.eq_false_iff.mpr c36
             subst c36
             have H1 : (if 0 ≤ ((rd_T71 l0_1 x10_3).f1) then (if ((rd_T71 l0_1 x10_3).f1) < (x6_3.length : Int) then (if (rd x6_3 ((rd_T71 l0_1 x10_3).f1)) < 0 then (if 0 ≤ ((rd_T71 l0_1 x10_3).f0) then (if ((rd_T71 l0_1 x10_3).f0) < (x6_3.length : Int) then (if (rd x6_3 ((rd_T71 l0_1 x10_3).f0)) ≥ 0 then (if ((rd_T71 l0_1 x10_3).f1) < (x7_3.length : Int) then (spec_l30Reach.l2 kj21 (x6_3.set (((rd_T71 l0_1 x10_3).f1) : Int).toNat (wrap64 ((rd x6_3 ((rd_T71 l0_1 x10_3).f0)) + ((rd_T71 l0_1 x10_3).f2)))) (x7_3.set (((rd_T71 l0_1 x10_3).f1) : Int).toNat ((rd_T71 l0_1 x10_3).f0)) true (wrap64 (x10_3 + 1)) a0_0 l0_1) else (none)) else (spec_l30Reach.l2 kj21 x6_3 x7_3 x9_3 (wrap64 (x10_3 + 1)) a0_0 l0_1)) else (none)) else (none)) else (spec_l30Reach.l2 kj21 x6_3 x7_3 x9_3 (wrap64 (x10_3 + 1)) a0_0 l0_1)) else (none)) else (none)) = some (r1, r2) := by rw [if_neg (show ¬ (false = true) by decide)] at H; exact H
             clear H
             have H := H1
             clear H1
             by_cases c51 : 0 ≤ ((rd_T71 l0_1 x10_3).f1)
             rotate_left
             ·exact nope_ c51 H
             rw [if_pos c51] at H
             have c51b0 := decide_eq_true c51
             clear c51
             by_cases c52 : ((rd_T71 l0_1 x10_3).f1) < (x6_3.length : Int)
             rotate_left
             ·exact nope_ c52 H
             rw [if_pos c52] at H
             have c52b0 := decide_eq_true c52
             clear c52
             by_cases c53 : (rd x6_3 ((rd_T71 l0_1 x10_3).f1)) < 0
             ·rw [if_pos c53] at H
              have c53b0 := decide_eq_true c53
              clear c53
              by_cases c54 : 0 ≤ ((rd_T71 l0_1 x10_3).f0)
              rotate_left
              ·exact nope_ c54 H
              rw [if_pos c54] at H
              have c54b0 := decide_eq_true c54
              clear c54
              by_cases c55 : ((rd_T71 l0_1 x10_3).f0) < (x6_3.length : Int)
              rotate_left
              ·exact nope_ c55 H
              rw [if_pos c55] at H
              have c55b0 := decide_eq_true c55
              clear c55
              by_cases c56 : (rd x6_3 ((rd_T71 l0_1 x10_3).f0)) ≥ 0
              ·rw [if_pos c56] at H
               have c56b0 : decide (0 ≤ (rd x6_3 ((rd_T71 l0_1 x10_3).f0))) = true := decide_eq_true c56
               clear c56
               obtain ⟨y157, hy157⟩ : ∃ y_ : List Int, y_ = (x6_3.set (((rd_T71 l0_1 x10_3).f1) : Int).toNat (wrap64 ((rd x6_3 ((rd_T71 l0_1 x10_3).f0)) + ((rd_T71 l0_1 x10_3).f2)))) := ⟨_, rfl⟩
               replace H : (if ((rd_T71 l0_1 x10_3).f1) < (x7_3.length : Int) then (spec_l30Reach.l2 kj21 y157 (x7_3.set (((rd_T71 l0_1 x10_3).f1) : Int).toNat ((rd_T71 l0_1 x10_3).f0)) true (wrap64 (x10_3 + 1)) a0_0 l0_1) else (none)) = some (r1, r2) := yh_ H hy157
               have Ny157 := Aside0.mk hy157
               clear hy157
               by_cases c58 : ((rd_T71 l0_1 x10_3).f1) < (x7_3.length : Int)
               rotate_left
               ·exact nope_ c58 H
               rw [if_pos c58] at H
               have c58b0 := decide_eq_true c58
               clear c58
               obtain ⟨y158, hy158⟩ : ∃ y_ : List Int, y_ = (x7_3.set (((rd_T71 l0_1 x10_3).f1) : Int).toNat ((rd_T71 l0_1 x10_3).f0)) := ⟨_, rfl⟩
               replace H : (spec_l30Reach.l2 kj21 y157 y158 true (wrap64 (x10_3 + 1)) a0_0 l0_1) = some (r1, r2) := yh_ H hy158
               have Ny158 := Aside0.mk hy158
               clear hy158
               have H' := Aside0.mk H
               clear H
               have hnb60 := NB148_0.out
               have hnc60 := NB0_148.out
               have hcz61_0 : wc.cell? ⟨gb148, 0, none⟩ = some (.int .i64 ((rd_T71 l0_1 x10_3).f0)) := (blk_cell BK148.out 0).trans rfl
               have hcz61_1 : wc.cell? ⟨gb148, 1, none⟩ = some (.int .i64 ((rd_T71 l0_1 x10_3).f1)) := (blk_cell BK148.out 1).trans rfl
               have hcz61_2 : wc.cell? ⟨gb148, 2, none⟩ = some (.int .i64 ((rd_T71 l0_1 x10_3).f2)) := (blk_cell BK148.out 2).trans rfl
               have hfz61_0 := blk_frozen BK148.out 0
               have hfz61_1 := blk_frozen BK148.out 1
               have hfz61_2 := blk_frozen BK148.out 2
               have p154 : 0 ≤ (((rd_T71 l0_1 x10_3).f1) : Int) := od_
               have q154 : ((rd_T71 l0_1 x10_3).f1) < (x6_3.length : Int) := od_
               obtain ⟨ad154, e154, hx154_0⟩ := Kd.at_int (Kd.R_reads' HO_6.out).2.2 ((rd_T71 l0_1 x10_3).f1) p154 q154
               obtain rfl : (⟨go15, 0, none⟩ : Addr) = ad154 := (by injection e154)
               (try first | simp only [add_plain] at hx154_0 | simp only [add_at] at hx154_0 | simp only [Addr.add, Nat.zero_add] at hx154_0)
               replace p154 := eq_true p154
               replace q154 := eq_true q154
               have p155 : 0 ≤ (((rd_T71 l0_1 x10_3).f0) : Int) := od_
               have q155 : ((rd_T71 l0_1 x10_3).f0) < (x6_3.length : Int) := od_
               obtain ⟨ad155, e155, hx155_0⟩ := Kd.at_int (Kd.R_reads' HO_6.out).2.2 ((rd_T71 l0_1 x10_3).f0) p155 q155
               obtain rfl : (⟨go15, 0, none⟩ : Addr) = ad155 := (by injection e155)
               (try first | simp only [add_plain] at hx155_0 | simp only [add_at] at hx155_0 | simp only [Addr.add, Nat.zero_add] at hx155_0)
               replace p155 := eq_true p155
               replace q155 := eq_true q155
               try go_wp2
               have n0_ := Aside0.mk (Kd.R_drew HO_6.out)
               have n1_ := Aside0.mk (Kd.R_drew HO_7.out)
               have n2_ := Aside0.mk (blk_drew BK0.out)
               have n3_ := Aside0.mk (blk_drew BK148.out)
               have n4_ := Aside0.mk (below_drew1 HB.out)
               clear HO_6
               clear HO_7
               clear BK0
               clear BK148
               clear HB
               have HO_6 := n0_
               have HO_7 := n1_
               have BK0 := n2_
               have BK148 := n3_
               have HB := n4_
               clear n0_ n1_ n2_ n3_ n4_
               have p156 : 0 ≤ (((rd_T71 l0_1 x10_3).f0) : Int) := od_
               have q156 : ((rd_T71 l0_1 x10_3).f0) < (x6_3.length : Int) := od_
               obtain ⟨ad156, e156, hx156_0⟩ := Kd.at_int (Kd.R_reads' HO_6.out).2.2 ((rd_T71 l0_1 x10_3).f0) p156 q156
               obtain rfl : (⟨go15, 0, none⟩ : Addr) = ad156 := (by injection e156)
               (try first | simp only [add_plain] at hx156_0 | simp only [add_at] at hx156_0 | simp only [Addr.add, Nat.zero_add] at hx156_0)
               replace p156 := eq_true p156
               replace q156 := eq_true q156
               have p57 : 0 ≤ (((rd_T71 l0_1 x10_3).f1) : Int) := od_
               have q57 : (((rd_T71 l0_1 x10_3).f1) : Int) < ((x6_3.length : Int) : Int) := od_
               obtain ⟨hx57_0, hf57_0⟩ := Kd.R_celln 0 HO_6.out (((rd_T71 l0_1 x10_3).f1) : Int) p57 q57
               replace p57 := eq_true p57
               replace q57 := eq_true q57
               have HP63 := Kd.R_putn HO_6.out (((rd_T71 l0_1 x10_3).f1) : Int) (wrap64 ((rd x6_3 ((rd_T71 l0_1 x10_3).f0)) + ((rd_T71 l0_1 x10_3).f2)))
               rw [← Ny157.out] at HP63
               have HQ63 := Aside0.mk HP63
               clear HP63
               refine start_ (n := 13) (S := fun w' => w'.cell? ⟨gb148, 0, none⟩ = some (.int .i64 ((rd_T71 l0_1 x10_3).f0)) ∧ w'.cell? ⟨gb148, 1, none⟩ = some (.int .i64 ((rd_T71 l0_1 x10_3).f1)) ∧ w'.cell? ⟨gb148, 2, none⟩ = some (.int .i64 ((rd_T71 l0_1 x10_3).f2)) ∧ w'.cell? ⟨go15, (((rd_T71 l0_1 x10_3).f0)).toNat, none⟩ = some (.int .i64 (rd x6_3 ((rd_T71 l0_1 x10_3).f0)))) (ds := [12]) #[false,false,false,false,false,false,false,false,false,false,false,false,false] (by kernel_rfl) rfl rfl ⟨(blk_cell BK148.out 0).trans rfl, (blk_cell BK148.out 1).trans rfl, (blk_cell BK148.out 2).trans rfl, hx156_0⟩ (fun hHeld => ?_); refine with_tabW spec_l30Reach.tab21 spec_l30Reach.bits21 (fun HT_ HW_ => ?_)
               generalize wc.drew = w62 at HO_6 HO_7 BK0 BK148 HB HQ63 hf57_0 hx156_0 hx57_0 hHeld ⊢
               refine puz_ 0 (some 94) #[true,false,false,false,false,false,false,false,false,false,false,false,false] rfl rfl (any_of HT_.out (by kernel_rfl)) ?_
               refine puz_ 1 (some 95) #[true,true,false,false,false,false,false,false,false,false,false,false,false] rfl rfl (any_of HT_.out (by kernel_rfl)) ?_
               refine puz_ 3 (some 97) #[true,true,false,true,false,false,false,false,false,false,false,false,false] rfl rfl (any_of HT_.out (by kernel_rfl)) ?_
               refine puz_ 4 (some 98) #[true,true,false,true,true,false,false,false,false,false,false,false,false] rfl rfl (any_of HT_.out (by kernel_rfl)) ?_
               refine puz_ 8 (some 102) #[true,true,false,true,true,false,false,false,true,false,false,false,false] rfl rfl (any_of HT_.out (by kernel_rfl)) ?_
               refine tkz_ 2 (some 96) #[true,true,true,true,true,false,false,false,true,false,false,false,false] rfl rfl (take_ofW HT_.out HW_.out (by kernel_rfl)) hHeld ?_
               refine tkz_ 5 (some 99) #[true,true,true,true,true,true,false,false,true,false,false,false,false] rfl rfl (take_ofW HT_.out HW_.out (by kernel_rfl)) hHeld ?_
               refine puz_ 6 (some 100) #[true,true,true,true,true,true,true,false,true,false,false,false,false] rfl rfl (any_of HT_.out (by kernel_rfl)) ?_
               refine tkz_ 7 (some 101) #[true,true,true,true,true,true,true,true,true,false,false,false,false] rfl rfl (take_ofW HT_.out HW_.out (by kernel_rfl)) hHeld ?_
               refine tkz_ 9 (some 103) #[true,true,true,true,true,true,true,true,true,true,false,false,false] rfl rfl (take_ofW HT_.out HW_.out (by kernel_rfl)) hHeld ?_
               refine puz_ 10 (some 104) #[true,true,true,true,true,true,true,true,true,true,true,false,false] rfl rfl (any_of HT_.out (by kernel_rfl)) ?_
               refine puz_ 11 (some 105) #[true,true,true,true,true,true,true,true,true,true,true,true,false] rfl rfl (any_of HT_.out (by kernel_rfl)) ?_
               refine last_ (i := 12) (N := none) #[true,true,true,true,true,true,true,true,true,true,true,true,true] rfl rfl (one_of HT_.out (by kernel_rfl)) (by decide) (fun K hK => ?_)
               refine skip_ (w1 := ?_) (by rfl) rfl ?_ ?_
               rotate_left
               ·go_simp
                rfl
               refine hK.out _ _ ?_
               clear hK K
               refine done_ (done_of HT_.out (by kernel_rfl)) ?_
               have n0_ : Aside0 (Kd.R (Kd.int .i64) 2 (w62.setCell ⟨go15, (((rd_T71 l0_1 x10_3).f1) : Int).toNat, none⟩ (.int .i64 (wrap64 ((rd x6_3 ((rd_T71 l0_1 x10_3).f0)) + ((rd_T71 l0_1 x10_3).f2))))) w.heap.size (fun k_ => some k_ ≠ (u7 : Value).ownBlock) (.slice (some ⟨go15, 0, none⟩) x6_3.length co15) y157) := ⟨by (with_reducible repeat (first | apply Kd.R_alloc | apply Kd.R_drewN | apply Kd.R_drew)); exact HQ63.out⟩
               have n1_ : Aside0 (Kd.R (Kd.int .i64) 2 (w62.setCell ⟨go15, (((rd_T71 l0_1 x10_3).f1) : Int).toNat, none⟩ (.int .i64 (wrap64 ((rd x6_3 ((rd_T71 l0_1 x10_3).f0)) + ((rd_T71 l0_1 x10_3).f2))))) w.heap.size (fun k_ => some k_ ≠ (.slice (some ⟨go15, 0, none⟩) x6_3.length co15 : Value).ownBlock) u7 x7_3) := ⟨by (with_reducible repeat (first | apply Kd.R_alloc | apply Kd.R_drewN | apply Kd.R_drew)); exact Kd.R_mono (Kd.R_far (p := ⟨go15, (((rd_T71 l0_1 x10_3).f1) : Int).toNat, none⟩) (Kd.R_mono HO_7.out (fun k_ hk => (⟨hk, fun e_ => hk (by rw [e_]; rfl)⟩ : _ ∧ k_ ≠ go15))) (fun _ hk => hk.2) (.int .i64 (wrap64 ((rd x6_3 ((rd_T71 l0_1 x10_3).f0)) + ((rd_T71 l0_1 x10_3).f2))))) (fun _ hk => hk.1)⟩
               have n2_ : Aside0 ((w62.setCell ⟨go15, (((rd_T71 l0_1 x10_3).f1) : Int).toNat, none⟩ (.int .i64 (wrap64 ((rd x6_3 ((rd_T71 l0_1 x10_3).f0)) + ((rd_T71 l0_1 x10_3).f2))))).heap[g0]? = some (.cells #[.int .i64 a0_0, .slice (some ad147) l0_1.length c0_1] 29 (0, 0))) := ⟨by (with_reducible repeat (first | refine blk_drewN ?_ _ | refine blk_drew ?_ | refine blk_alloc ?_ _)); refine blk_far ?_ (by have h_ := Kd.R_ne HO_6.out BK0.out (by decide); intro e_; exact h_ (by rw [e_]; rfl)) _; (with_reducible repeat (first | refine blk_drewN ?_ _ | refine blk_drew ?_ | refine blk_alloc ?_ _)); exact BK0.out⟩
               have n3_ : Aside0 ((w62.setCell ⟨go15, (((rd_T71 l0_1 x10_3).f1) : Int).toNat, none⟩ (.int .i64 (wrap64 ((rd x6_3 ((rd_T71 l0_1 x10_3).f0)) + ((rd_T71 l0_1 x10_3).f2))))).heap[gb148]? = some (.cells #[.int .i64 ((rd_T71 l0_1 x10_3).f0), .int .i64 ((rd_T71 l0_1 x10_3).f1), .int .i64 ((rd_T71 l0_1 x10_3).f2)] 71 (0, 0))) := ⟨by (with_reducible repeat (first | refine blk_drewN ?_ _ | refine blk_drew ?_ | refine blk_alloc ?_ _)); refine blk_far ?_ (by have h_ := Kd.R_ne HO_6.out BK148.out (by decide); intro e_; exact h_ (by rw [e_]; rfl)) _; (with_reducible repeat (first | refine blk_drewN ?_ _ | refine blk_drew ?_ | refine blk_alloc ?_ _)); exact BK148.out⟩
               have n4_ : Aside0 (Below w.heap.size w (w62.setCell ⟨go15, (((rd_T71 l0_1 x10_3).f1) : Int).toNat, none⟩ (.int .i64 (wrap64 ((rd x6_3 ((rd_T71 l0_1 x10_3).f0)) + ((rd_T71 l0_1 x10_3).f2)))))) := ⟨by repeat (first | (with_reducible first | exact HB.out | apply below_alloc | apply pw_below_drewN | apply below_drew1 | refine below_set ?_ GB15.out | refine below_set ?_ GE148.out) | exact HB.out)⟩
               (try clear HO_6)
               (try clear HO_7)
               (try clear BK0)
               (try clear BK148)
               (try clear HB)
               generalize (w62.setCell ⟨go15, (((rd_T71 l0_1 x10_3).f1) : Int).toNat, none⟩ (.int .i64 (wrap64 ((rd x6_3 ((rd_T71 l0_1 x10_3).f0)) + ((rd_T71 l0_1 x10_3).f2))))) = w64 at n0_ n1_ n2_ n3_ n4_ ⊢
               have HO_6 := n0_
               have HO_7 := n1_
               have BK0 := n2_
               have BK148 := n3_
               have HB := n4_
               clear n0_ n1_ n2_ n3_ n4_
               have hcz65_0 : w64.cell? ⟨gb148, 0, none⟩ = some (.int .i64 ((rd_T71 l0_1 x10_3).f0)) := (blk_cell BK148.out 0).trans rfl
               have hcz65_1 : w64.cell? ⟨gb148, 1, none⟩ = some (.int .i64 ((rd_T71 l0_1 x10_3).f1)) := (blk_cell BK148.out 1).trans rfl
               have hcz65_2 : w64.cell? ⟨gb148, 2, none⟩ = some (.int .i64 ((rd_T71 l0_1 x10_3).f2)) := (blk_cell BK148.out 2).trans rfl
               have hfz65_0 := blk_frozen BK148.out 0
               have hfz65_1 := blk_frozen BK148.out 1
               have hfz65_2 := blk_frozen BK148.out 2
               have p59 : 0 ≤ (((rd_T71 l0_1 x10_3).f1) : Int) := od_
               have q59 : (((rd_T71 l0_1 x10_3).f1) : Int) < ((x7_3.length : Int) : Int) := od_
               obtain ⟨go59, co59, eo59, gb59, gl59, cl59, HG59⟩ := Kd.R_form HO_7.out (by omega)
               (first | cases eo59 | (injection eo59 with ea_ en_ ec_; (first | subst ea_ | (injection ea_ with ea_; subst ea_)); subst ec_; clear en_))
               have GB59 := Aside0.mk gb59
               have GG59 := Aside0.mk HG59
               clear gb59 gl59 HG59
               obtain ⟨hx59_0, hf59_0⟩ := Kd.R_celln 0 HO_7.out (((rd_T71 l0_1 x10_3).f1) : Int) p59 q59
               replace p59 := eq_true p59
               replace q59 := eq_true q59
               obtain ⟨hy66_, hz66_⟩ := Kd.R_celln 0 HO_7.out (((rd_T71 l0_1 x10_3).f1) : Int) (od_) (od_)
               have HP66 := Kd.R_putg HO_7.out (((rd_T71 l0_1 x10_3).f1) : Int) ((rd_T71 l0_1 x10_3).f0)
               try go_wp2_with (first | ((with_reducible refine gate_store (t := 2) (p := 111) rfl ?_); refine store_event (t := 2) (p := 111) (v := ?vo_w67) (w1 := (w64.setCell ⟨go59, (((rd_T71 l0_1 x10_3).f1) : Int).toNat, none⟩ (.int .i64 ((rd_T71 l0_1 x10_3).f0)))) ?hg ?ho ?hn ?hr ?_; (case ho => rfl); (case hg => rfl); (case hn => rfl); (case hr => first | (go_simp; done) | (go_simp; rfl)); intro w67 hw; have hg : w64.grownBy w67 (some go59) := (by rw [hw]; exact HP66.2); have hp_ : Kd.R (Kd.int .i64) 2 w67 w.heap.size (fun k_ => some k_ ≠ (.slice (some ⟨go15, 0, none⟩) x6_3.length co15 : Value).ownBlock) (.slice (some ⟨go59, 0, none⟩) x7_3.length co59) y158 := (by rw [hw, Ny158.out]; exact HP66.1); clear HP66; have n0_ := Aside0.mk (Kd.R_after (v := (.slice (some ⟨go59, 0, none⟩) x7_3.length co59)) (v1 := (.slice (some ⟨go59, 0, none⟩) x7_3.length co59)) (ok := (fun _ => True)) (by (with_reducible repeat (first | apply Kd.R_alloc | apply Kd.R_drewN | apply Kd.R_drew)); exact Kd.R_mono HO_6.out (fun _ hk => ⟨trivial, hk⟩)) hg (.inl rfl)); have n1_ := Aside0.mk (hp_); have n2_ := Aside0.mk (blk_grown (g := g0) (o := .cells #[.int .i64 a0_0, .slice (some ad147) l0_1.length c0_1] 29 (0, 0)) (bk_ BK0.out) hg (Kd.R_ne HO_7.out BK0.out (by decide))); have n3_ := Aside0.mk (blk_grown (g := gb148) (o := .cells #[.int .i64 ((rd_T71 l0_1 x10_3).f0), .int .i64 ((rd_T71 l0_1 x10_3).f1), .int .i64 ((rd_T71 l0_1 x10_3).f2)] 71 (0, 0)) (bk_ BK148.out) hg (Kd.R_ne HO_7.out BK148.out (by decide))); have n4_ := Aside0.mk ((by rw [hw]; exact below_set (HB.out) GB59.out : Below w.heap.size w w67)); clear HO_6; clear HO_7; clear BK0; clear BK148; clear HB; have HO_6 := n0_; have HO_7 := n1_; have BK0 := n2_; have BK148 := n3_; have HB := n4_; clear n0_ n1_ n2_ n3_ n4_; clear hg hw hp_))
               (try simp only [← hl6_3])
               go_roundg kj21
               case measure => have := HK1.out; have := HK2.out; have := HK3.out; have := HJ21.out; omega
               case rel => exact ⟨(y157), (y158), (true), (wrap64 (x10_3 + 1)), rs_, rs_, H', ⟨by have := HK1.out; have := HK2.out; have := HK3.out; have := HJ21.out; omega⟩, ⟨by (try simp only [hl6_2]); (try simp only [hl6_3]); (with_reducible repeat (first | apply Kd.R_alloc | apply Kd.R_drewN | apply Kd.R_drew)); exact Kd.R_mono HO_6.out (fun _ hk => hk.2)⟩, ⟨by (try simp only [hl6_2]); (try simp only [hl6_3]); (with_reducible repeat (first | apply Kd.R_alloc | apply Kd.R_drewN | apply Kd.R_drew)); exact HO_7.out⟩, ⟨by (try simp only [hl6_2]); (try simp only [hl6_3]); (with_reducible repeat (first | refine blk_drewN ?_ _ | refine blk_drew ?_ | refine blk_alloc ?_ _)); exact BK0.out⟩, ⟨bl1_ HB.out GE148.out⟩⟩
              ·rw [if_neg c56] at H
               have c56b0 : decide (0 ≤ (rd x6_3 ((rd_T71 l0_1 x10_3).f0))) = false := decide_eq_false c56
               clear c56
               have H' := Aside0.mk H
               clear H
               have hnb68 := NB148_0.out
               have hnc68 := NB0_148.out
               have hcz69_0 : wc.cell? ⟨gb148, 0, none⟩ = some (.int .i64 ((rd_T71 l0_1 x10_3).f0)) := (blk_cell BK148.out 0).trans rfl
               have hcz69_1 : wc.cell? ⟨gb148, 1, none⟩ = some (.int .i64 ((rd_T71 l0_1 x10_3).f1)) := (blk_cell BK148.out 1).trans rfl
               have hcz69_2 : wc.cell? ⟨gb148, 2, none⟩ = some (.int .i64 ((rd_T71 l0_1 x10_3).f2)) := (blk_cell BK148.out 2).trans rfl
               have hfz69_0 := blk_frozen BK148.out 0
               have hfz69_1 := blk_frozen BK148.out 1
               have hfz69_2 := blk_frozen BK148.out 2
               have p154 : 0 ≤ (((rd_T71 l0_1 x10_3).f1) : Int) := od_
               have q154 : ((rd_T71 l0_1 x10_3).f1) < (x6_3.length : Int) := od_
               obtain ⟨ad154, e154, hx154_0⟩ := Kd.at_int (Kd.R_reads' HO_6.out).2.2 ((rd_T71 l0_1 x10_3).f1) p154 q154
               obtain rfl : (⟨go15, 0, none⟩ : Addr) = ad154 := (by injection e154)
               (try first | simp only [add_plain] at hx154_0 | simp only [add_at] at hx154_0 | simp only [Addr.add, Nat.zero_add] at hx154_0)
               replace p154 := eq_true p154
               replace q154 := eq_true q154
               have p155 : 0 ≤ (((rd_T71 l0_1 x10_3).f0) : Int) := od_
               have q155 : ((rd_T71 l0_1 x10_3).f0) < (x6_3.length : Int) := od_
               obtain ⟨ad155, e155, hx155_0⟩ := Kd.at_int (Kd.R_reads' HO_6.out).2.2 ((rd_T71 l0_1 x10_3).f0) p155 q155
               obtain rfl : (⟨go15, 0, none⟩ : Addr) = ad155 := (by injection e155)
               (try first | simp only [add_plain] at hx155_0 | simp only [add_at] at hx155_0 | simp only [Addr.add, Nat.zero_add] at hx155_0)
               replace p155 := eq_true p155
               replace q155 := eq_true q155
               go_wp2
               (try simp only [← hl6_3])
               go_roundg kj21
               case measure => have := HK1.out; have := HK2.out; have := HK3.out; have := HJ21.out; omega
               case rel => exact ⟨(x6_3), (x7_3), (x9_3), (wrap64 (x10_3 + 1)), rs_, rs_, H', ⟨by have := HK1.out; have := HK2.out; have := HK3.out; have := HJ21.out; omega⟩, ⟨by (try simp only [hl6_2]); (try simp only [hl6_3]); (with_reducible repeat (first | apply Kd.R_alloc | apply Kd.R_drewN | apply Kd.R_drew)); exact HO_6.out⟩, ⟨by (try simp only [hl6_2]); (try simp only [hl6_3]); (with_reducible repeat (first | apply Kd.R_alloc | apply Kd.R_drewN | apply Kd.R_drew)); exact HO_7.out⟩, ⟨by (try simp only [hl6_2]); (try simp only [hl6_3]); (with_reducible repeat (first | refine blk_drewN ?_ _ | refine blk_drew ?_ | refine blk_alloc ?_ _)); exact BK0.out⟩, ⟨bl1_ HB.out GE148.out⟩⟩
             ·rw [if_neg c53] at H
              have c53b0 := decide_eq_false c53
              clear c53
              have H' := Aside0.mk H
              clear H
              have hnb70 := NB148_0.out
              have hnc70 := NB0_148.out
              have hcz71_0 : wc.cell? ⟨gb148, 0, none⟩ = some (.int .i64 ((rd_T71 l0_1 x10_3).f0)) := (blk_cell BK148.out 0).trans rfl
              have hcz71_1 : wc.cell? ⟨gb148, 1, none⟩ = some (.int .i64 ((rd_T71 l0_1 x10_3).f1)) := (blk_cell BK148.out 1).trans rfl
              have hcz71_2 : wc.cell? ⟨gb148, 2, none⟩ = some (.int .i64 ((rd_T71 l0_1 x10_3).f2)) := (blk_cell BK148.out 2).trans rfl
              have hfz71_0 := blk_frozen BK148.out 0
              have hfz71_1 := blk_frozen BK148.out 1
              have hfz71_2 := blk_frozen BK148.out 2
              have p154 : 0 ≤ (((rd_T71 l0_1 x10_3).f1) : Int) := od_
              have q154 : ((rd_T71 l0_1 x10_3).f1) < (x6_3.length : Int) := od_
              obtain ⟨ad154, e154, hx154_0⟩ := Kd.at_int (Kd.R_reads' HO_6.out).2.2 ((rd_T71 l0_1 x10_3).f1) p154 q154
              obtain rfl : (⟨go15, 0, none⟩ : Addr) = ad154 := (by injection e154)
              (try first | simp only [add_plain] at hx154_0 | simp only [add_at] at hx154_0 | simp only [Addr.add, Nat.zero_add] at hx154_0)
              replace p154 := eq_true p154
              replace q154 := eq_true q154
              go_wp2
              (try simp only [← hl6_3])
              go_roundg kj21
              case measure => have := HK1.out; have := HK2.out; have := HK3.out; have := HJ21.out; omega
              case rel => exact ⟨(x6_3), (x7_3), (x9_3), (wrap64 (x10_3 + 1)), rs_, rs_, H', ⟨by have := HK1.out; have := HK2.out; have := HK3.out; have := HJ21.out; omega⟩, ⟨by (try simp only [hl6_2]); (try simp only [hl6_3]); (with_reducible repeat (first | apply Kd.R_alloc | apply Kd.R_drewN | apply Kd.R_drew)); exact HO_6.out⟩, ⟨by (try simp only [hl6_2]); (try simp only [hl6_3]); (with_reducible repeat (first | apply Kd.R_alloc | apply Kd.R_drewN | apply Kd.R_drew)); exact HO_7.out⟩, ⟨by (try simp only [hl6_2]); (try simp only [hl6_3]); (with_reducible repeat (first | refine blk_drewN ?_ _ | refine blk_drew ?_ | refine blk_alloc ?_ _)); exact BK0.out⟩, ⟨bl1_ HB.out GE148.out⟩⟩
         ·rw [if_neg c20] at H
          have c20b0 := decide_eq_false c20
          clear c20
          have H' := Aside0.mk H
          clear H
          have hcz72_0 : wr.cell? ⟨g0, 0, none⟩ = some (.int .i64 a0_0) := (blk_cell BK0.out 0).trans rfl
          have hcz72_1 : wr.cell? ⟨g0, 1, none⟩ = some (.slice A0_1 l0_1.length c0_1) := (blk_cell BK0.out 1).trans rfl
          have hfz72_0 := blk_frozen BK0.out 0
          have hfz72_1 := blk_frozen BK0.out 1
          go_wp2
          (try simp only [← hl6_2, ← hl6_3])
          go_roundg k3
          case measure => have := HK1.out; have := HK2.out; have := HK3.out; omega
          case rel => exact ⟨(x6_3), (x7_3), (x9_3), rs_, H', ⟨by have := HK1.out; have := HK2.out; have := HK3.out; omega⟩, ⟨by (try simp only [hl6_2]); (try simp only [hl6_3]); (with_reducible repeat (first | apply Kd.R_alloc | apply Kd.R_drewN | apply Kd.R_drew)); exact HO_6.out⟩, ⟨by (try simp only [hl6_2]); (try simp only [hl6_3]); (with_reducible repeat (first | apply Kd.R_alloc | apply Kd.R_drewN | apply Kd.R_drew)); exact HO_7.out⟩, ⟨by (try simp only [hl6_2]); (try simp only [hl6_3]); (with_reducible repeat (first | refine blk_drewN ?_ _ | refine blk_drew ?_ | refine blk_alloc ?_ _)); exact BK0.out⟩, ⟨bl0_ HB.out⟩⟩
      ·replace c19 := Bool.eq_false_iff.mpr c19
       subst c19
       have H1 : (some (x6_2, x7_2)) = some (r1, r2) := by rw [if_neg (show ¬ (false = true) by decide)] at H; exact H
       clear H
       have H := H1
       clear H1
       simp only [Option.some.injEq, Prod.mk.injEq] at H
       obtain ⟨rfl, rfl⟩ := H
       go_wp2
       go_ret2
       exact ⟨_, _, by first | rfl | (simp [errW_none, errW_some] <;> rfl) | (simp [*, errW_none, errW_some] <;> rfl), ra_ HO_6.out, ra_ HO_7.out, bl0_ HB.out⟩

/-! ### spec_l00In: function 72 -/
def spec_l00In.f (a0 : Int) (a1 : Int) (a2 : Int) : Option (Bool) := if a0 ≥ a1 then (some (decide (a0 ≤ a2))) else (some false)
set_option maxHeartbeats 8000000 in
set_option maxRecDepth 100000 in
theorem spec_l00In.calls (a0 : Int) (a1 : Int) (a2 : Int) (r : Bool) (w : World) (h : spec_l00In.f a0 a1 a2 = some r) :
  Calls Try.prog 72 #[.int .i64 a0, .int .i64 a1, .int .i64 a2] w fun e w' => e = .returned (.bool r) ∧ Drawn0 w w' := by
 have H : (if a0 ≥ a1 then (some (decide (a0 ≤ a2))) else (some false)) = some r := h
 clear h
 by_cases c4 : a0 ≥ a1
 ·rw [if_pos c4] at H
  have c4b0 : decide (a1 ≤ a0) = true := decide_eq_true c4
  clear c4
  obtain rfl := Option.some.inj H
  go_enter Try.func72, Try.ntmps72
  go_wp2
  go_ret
  exact ⟨by first | rfl | (simp; done) | (simp [*]; done), by repeat (first | exact Drawn0.refl _ | apply Drawn0.step)⟩
 ·rw [if_neg c4] at H
  have c4b0 : decide (a1 ≤ a0) = false := decide_eq_false c4
  clear c4
  obtain rfl := Option.some.inj H
  go_enter Try.func72, Try.ntmps72
  go_wp2
  go_ret
  exact ⟨by first | rfl | (simp; done) | (simp [*]; done), by repeat (first | exact Drawn0.refl _ | apply Drawn0.step)⟩

end Go.Proofs.Ytnbhnkpefhdgjaa.L
