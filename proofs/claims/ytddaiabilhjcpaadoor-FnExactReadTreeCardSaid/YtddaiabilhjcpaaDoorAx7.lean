/- For functions of the translation: a Lean function each, and that the call of the Go function comes to its answer. Written by this session's own program (myprint.py, over the kit's printer). -/
import Derived.Test.YtddaiabilhjcpaaDoorAx0
--compacted
namespace Go.Proofs.YtddaiabilhjcpaaDoor.A
open Go.RowKit Go.Proofs.YtddaiabilhjcpaaDoorW.PrintWords Go.Proofs.YtddaiabilhjcpaaDoorW.PrintLast Go.Proofs.YtddaiabilhjcpaaDoorW.PrintMore
attribute [local go_sem] max2_int min2_int max_two min_two max_three min_three max_four min_four   -- for this text's walks alone
set_option linter.unusedVariables false
set_option linter.unusedSimpArgs false

/-! ### spec_l30Reach: function 64 -/
mutual
def spec_l30Reach.l0 : Nat → Int → List Int → List Int → Int → Int → List (S52) → Option (List Int × List Int)
 | 0, _, _, _, _, _, _ => none
 | k + 1, x1, x6, x7, x8, x1000, x1001 => if x8 < x1000 then (if x6.length < 17592186044416 then (if x7.length < 17592186044416 then (spec_l30Reach.l0 k x1 (x6 ++ [(-1)]) (x7 ++ [(-1)]) (wrap64 (x8 + 1)) x1000 x1001) else (none)) else (none)) else (if 0 ≤ x1 then (if x1 < (x6.length : Int) then (spec_l30Reach.l1 k (x6.set (x1 : Int).toNat 0) x7 true x1000 x1001) else (none)) else (none))
def spec_l30Reach.l1 : Nat → List Int → List Int → Bool → Int → List (S52) → Option (List Int × List Int)
 | 0, _, _, _, _, _ => none
 | k + 1, x6, x7, x9, x1000, x1001 => if x9 = true then (spec_l30Reach.l2 k x6 x7 false 0 x1000 x1001) else (some (x6, x7))
def spec_l30Reach.l2 : Nat → List Int → List Int → Bool → Int → Int → List (S52) → Option (List Int × List Int)
 | 0, _, _, _, _, _, _ => none
 | k + 1, x6, x7, x9, x10, x1000, x1001 => if x10 < (x1001.length : Int) then (if 0 ≤ x10 then (if 0 ≤ ((rd_T52 x1001 x10).f0) then (if ((rd_T52 x1001 x10).f0) < (x6.length : Int) then (if (rd x6 ((rd_T52 x1001 x10).f0)) < 0 then (if 0 ≤ ((rd_T52 x1001 x10).f1) then (if ((rd_T52 x1001 x10).f1) < (x6.length : Int) then (spec_l30Reach.j3 k x6 x7 x9 x10 (decide ((rd x6 ((rd_T52 x1001 x10).f1)) ≥ 0)) x1000 x1001 ((rd_T52 x1001 x10).f0) ((rd_T52 x1001 x10).f1) ((rd_T52 x1001 x10).f2)) else (none)) else (none)) else (spec_l30Reach.j3 k x6 x7 x9 x10 false x1000 x1001 ((rd_T52 x1001 x10).f0) ((rd_T52 x1001 x10).f1) ((rd_T52 x1001 x10).f2))) else (none)) else (none)) else (none)) else (spec_l30Reach.l1 k x6 x7 x9 x1000 x1001)
def spec_l30Reach.j3 : Nat → List Int → List Int → Bool → Int → Bool → Int → List (S52) → Int → Int → Int → Option (List Int × List Int)
 | 0, _, _, _, _, _, _, _, _, _, _ => none
 | k + 1, x6, x7, x9, x10, x61, x1000, x1001, x225000, x225001, x225002 => if x61 = true then (if 0 ≤ x225001 then (if x225001 < (x6.length : Int) then (if 0 ≤ x225000 then (if x225000 < (x6.length : Int) then (if x225000 < (x7.length : Int) then (spec_l30Reach.l2 k (x6.set (x225000 : Int).toNat (wrap64 ((rd x6 x225001) + x225002))) (x7.set (x225000 : Int).toNat x225001) true (wrap64 (x10 + 1)) x1000 x1001) else (none)) else (none)) else (none)) else (none)) else (none)) else (if 0 ≤ x225001 then (if x225001 < (x6.length : Int) then (if (rd x6 x225001) < 0 then (if 0 ≤ x225000 then (if x225000 < (x6.length : Int) then (if (rd x6 x225000) ≥ 0 then (if x225001 < (x7.length : Int) then (spec_l30Reach.l2 k (x6.set (x225001 : Int).toNat (wrap64 ((rd x6 x225000) + x225002))) (x7.set (x225001 : Int).toNat x225000) true (wrap64 (x10 + 1)) x1000 x1001) else (none)) else (spec_l30Reach.l2 k x6 x7 x9 (wrap64 (x10 + 1)) x1000 x1001)) else (none)) else (none)) else (spec_l30Reach.l2 k x6 x7 x9 (wrap64 (x10 + 1)) x1000 x1001)) else (none)) else (none))
end
def spec_l30Reach.f (k : Nat) (a0_0 : Int) (l0_1 : List (S52)) (a1 : Int) : Option (List Int × List Int) := spec_l30Reach.l0 k a1 (([] : List Int)) (([] : List Int)) 0 a0_0 l0_1
theorem spec_l30Reach.mono_l : ∀ k, (∀ y0 y1 y2 y3 y4 y5, LeO (spec_l30Reach.l0 k y0 y1 y2 y3 y4 y5) (spec_l30Reach.l0 (k + 1) y0 y1 y2 y3 y4 y5)) ∧ (∀ y0 y1 y2 y3 y4, LeO (spec_l30Reach.l1 k y0 y1 y2 y3 y4) (spec_l30Reach.l1 (k + 1) y0 y1 y2 y3 y4)) ∧ (∀ y0 y1 y2 y3 y4 y5, LeO (spec_l30Reach.l2 k y0 y1 y2 y3 y4 y5) (spec_l30Reach.l2 (k + 1) y0 y1 y2 y3 y4 y5)) ∧ (∀ y0 y1 y2 y3 y4 y5 y6 y7 y8 y9, LeO (spec_l30Reach.j3 k y0 y1 y2 y3 y4 y5 y6 y7 y8 y9) (spec_l30Reach.j3 (k + 1) y0 y1 y2 y3 y4 y5 y6 y7 y8 y9))
 | 0 => ⟨fun _ _ _ _ _ _ r h => by simp [spec_l30Reach.l0] at h, fun _ _ _ _ _ r h => by simp [spec_l30Reach.l1] at h, fun _ _ _ _ _ _ r h => by simp [spec_l30Reach.l2] at h, fun _ _ _ _ _ _ _ _ _ _ r h => by simp [spec_l30Reach.j3] at h⟩
 | k + 1 => by
  obtain ⟨ih0, ih1, ih2, ih3⟩ := spec_l30Reach.mono_l k
  refine ⟨?_, ?_, ?_, ?_⟩
  ·intro y0 y1 y2 y3 y4 y5
   unfold spec_l30Reach.l0
   repeat' first
   | (with_reducible exact ih0 _ _ _ _ _ _)
   | (with_reducible exact ih1 _ _ _ _ _)
   | (with_reducible exact ih2 _ _ _ _ _ _)
   | (with_reducible exact ih3 _ _ _ _ _ _ _ _ _ _)
   | (with_reducible exact LeO.refl _)
   | (with_reducible exact LeO.none _)
   | (with_reducible refine LeO.ite ?_ ?_)
   | (with_reducible refine LeO.bind ?_ (fun _ => ?_))
  ·intro y0 y1 y2 y3 y4
   unfold spec_l30Reach.l1
   repeat' first
   | (with_reducible exact ih0 _ _ _ _ _ _)
   | (with_reducible exact ih1 _ _ _ _ _)
   | (with_reducible exact ih2 _ _ _ _ _ _)
   | (with_reducible exact ih3 _ _ _ _ _ _ _ _ _ _)
   | (with_reducible exact LeO.refl _)
   | (with_reducible exact LeO.none _)
   | (with_reducible refine LeO.ite ?_ ?_)
   | (with_reducible refine LeO.bind ?_ (fun _ => ?_))
  ·intro y0 y1 y2 y3 y4 y5
   unfold spec_l30Reach.l2
   repeat' first
   | (with_reducible exact ih0 _ _ _ _ _ _)
   | (with_reducible exact ih1 _ _ _ _ _)
   | (with_reducible exact ih2 _ _ _ _ _ _)
   | (with_reducible exact ih3 _ _ _ _ _ _ _ _ _ _)
   | (with_reducible exact LeO.refl _)
   | (with_reducible exact LeO.none _)
   | (with_reducible refine LeO.ite ?_ ?_)
   | (with_reducible refine LeO.bind ?_ (fun _ => ?_))
  ·intro y0 y1 y2 y3 y4 y5 y6 y7 y8 y9
   unfold spec_l30Reach.j3
   repeat' first
   | (with_reducible exact ih0 _ _ _ _ _ _)
   | (with_reducible exact ih1 _ _ _ _ _)
   | (with_reducible exact ih2 _ _ _ _ _ _)
   | (with_reducible exact ih3 _ _ _ _ _ _ _ _ _ _)
   | (with_reducible exact LeO.refl _)
   | (with_reducible exact LeO.none _)
   | (with_reducible refine LeO.ite ?_ ?_)
   | (with_reducible refine LeO.bind ?_ (fun _ => ?_))
theorem spec_l30Reach.mono : ∀ a0 a1 a2 k, LeO (spec_l30Reach.f k a0 a1 a2) (spec_l30Reach.f (k + 1) a0 a1 a2) := by
 intro a0 a1 a2 k
 obtain ⟨ih0, ih1, ih2, ih3⟩ := spec_l30Reach.mono_l k
 unfold spec_l30Reach.f
 repeat' first
   | (with_reducible exact ih0 _ _ _ _ _ _)
   | (with_reducible exact ih1 _ _ _ _ _)
   | (with_reducible exact ih2 _ _ _ _ _ _)
   | (with_reducible exact ih3 _ _ _ _ _ _ _ _ _ _)
   | (with_reducible exact LeO.refl _)
   | (with_reducible exact LeO.none _)
   | (with_reducible refine LeO.ite ?_ ?_)
   | (with_reducible refine LeO.bind ?_ (fun _ => ?_))
def spec_l30Reach.T17 : Bool × List (List Nat × List Nat) := (true, [([], []), ([], []), ([1], [1]), ([], []), ([], []), ([4], [4]), ([3, 5], [3, 5]), ([6], [6]), ([], []), ([8], [8]), ([7, 9], [7, 9]), ([0, 2, 0, 1, 2, 3, 4, 5, 6, 7, 8, 9, 10], [0, 2]), ([11, 10, 0, 1, 2, 3, 4, 5, 6, 7, 8, 9, 10], [10, 11])])
def spec_l30Reach.B17 : List Nat := [0, 0, 2, 0, 0, 16, 56, 120, 0, 256, 1016, 2047, 4095]
theorem spec_l30Reach.tab17 : rtab .any (opsOf Tryd.f64 17) = spec_l30Reach.T17 := by kernel_rfl
theorem spec_l30Reach.bits17 : waitsOk spec_l30Reach.T17.2 spec_l30Reach.B17 = true := by kernel_rfl
def spec_l30Reach.T21 : Bool × List (List Nat × List Nat) := (true, [([], []), ([], []), ([1], [1]), ([], []), ([], []), ([4], [4]), ([3, 5], [3, 5]), ([6], [6]), ([], []), ([8], [8]), ([7, 9], [7, 9]), ([0, 2, 0, 1, 2, 3, 4, 5, 6, 7, 8, 9, 10], [0, 2]), ([11, 10, 0, 1, 2, 3, 4, 5, 6, 7, 8, 9, 10], [10, 11])])
def spec_l30Reach.B21 : List Nat := [0, 0, 2, 0, 0, 16, 56, 120, 0, 256, 1016, 2047, 4095]
theorem spec_l30Reach.tab21 : rtab .any (opsOf Tryd.f64 21) = spec_l30Reach.T21 := by kernel_rfl
theorem spec_l30Reach.bits21 : waitsOk spec_l30Reach.T21.2 spec_l30Reach.B21 = true := by kernel_rfl
set_option maxHeartbeats 8000000 in
set_option maxRecDepth 100000 in
theorem spec_l30Reach.calls (k : Nat) (g0 : Nat) (a0_0 : Int) (A0_1 : Option Addr) (c0_1 : Nat) (l0_1 : List (S52)) (a1 : Int) (r1 : List Int) (r2 : List Int) (w : World) (hb0 : w.heap[g0]? = some (.cells #[.int .i64 a0_0, .slice A0_1 l0_1.length c0_1] 26 (0, 0))) (hr0_1 : Kd.C k52 w A0_1 l0_1.length l0_1) (hc0_1 : l0_1.length ≤ c0_1) (h : spec_l30Reach.f k a0_0 l0_1 a1 = some (r1, r2)) :
  Calls Tryd.prog 64 #[.pointer (some ⟨g0, 0, none⟩), .int .i64 a1] w fun e w' => ∃ v0_ v1_ : Value, e = .returned (.tuple #[v0_, v1_]) ∧ Kd.R (Kd.int .i64) 2 w' w.heap.size (fun k_ => some k_ ≠ (v1_ : Value).ownBlock) v0_ r1 ∧ Kd.R (Kd.int .i64) 2 w' w.heap.size (fun k_ => some k_ ≠ (v0_ : Value).ownBlock) v1_ r2 ∧ Below w.heap.size w w' := by
 have hu52 := Tryd.underlying52
 have HR0_1 := Aside0.mk hr0_1
 have HC0_1 := Aside0.mk hc0_1
 clear hr0_1 hc0_1
 have BK0 := Aside0.mk hb0
 clear hb0
 have HB := Aside0.mk (Below.refl w.heap.size w)
 have H : (spec_l30Reach.l0 k a1 (([] : List Int)) (([] : List Int)) 0 a0_0 l0_1) = some (r1, r2) := h
 clear h
 obtain ⟨y210, hy210⟩ : ∃ y_ : List Int, y_ = (([] : List Int)) := ⟨_, rfl⟩
 replace H : (spec_l30Reach.l0 k a1 y210 (([] : List Int)) 0 a0_0 l0_1) = some (r1, r2) := yh_ H hy210
 have Ny210 := Aside0.mk hy210
 clear hy210
 obtain ⟨y213, hy213⟩ : ∃ y_ : List Int, y_ = (([] : List Int)) := ⟨_, rfl⟩
 replace H : (spec_l30Reach.l0 k a1 y210 y213 0 a0_0 l0_1) = some (r1, r2) := yh_ H hy213
 have Ny213 := Aside0.mk hy213
 clear hy213
 have H' := Aside0.mk H
 clear H
 go_enter Tryd.func64, Tryd.ntmps64
 go_wp2_with (first | ((with_reducible refine gate_dst (N := 12) rfl ?_); refine Kd.R_lit (Kd.int .i64) _ 2 ?hg (N := 12) ?hd (xs := ([] : List Int)) (inner := []) (ok := fun _ => True) (okp := fun _ => True) ?hr ?hp (fun _ hk => hk) trivial (Below.refl _ _) (Nat.le_refl _) (by simp) ?_; (case hd => rfl); (case hg => rfl); (case hr => first | (go_simp; done) | (go_simp; rfl)); (case hp => exact (Reps.none _ _)); intro v211 w3 ho4 hb hg_ hnew_; clear hg_ hnew_; (first | rw [← Ny210.out] at ho4 | (simp only [Int.reduceToNat] at ho4; rw [← Ny210.out] at ho4)); have n0_ := Aside0.mk (Kd.R_lower ho4 (below_size (bl0_ HB.out))); have n1_ := Aside0.mk (blk_below (g := g0) (o := .cells #[.int .i64 a0_0, .slice A0_1 l0_1.length c0_1] 26 (0, 0)) (bk_ BK0.out) hb); have n2_ := Aside0.mk (below_step (bl0_ HB.out) hb); clear BK0; clear HB; have HO212 := n0_; have BK0 := n1_; have HB := n2_; clear n0_ n1_ n2_; clear hb ho4) | ((with_reducible refine gate_dst (N := 13) rfl ?_); refine Kd.R_lit (Kd.int .i64) _ 2 ?hg (N := 13) ?hd (xs := ([] : List Int)) (inner := []) (ok := fun _ => True) (okp := fun _ => True) ?hr ?hp (fun _ hk => hk) trivial (Below.refl _ _) (Nat.le_refl _) (by simp) ?_; (case hd => rfl); (case hg => rfl); (case hr => first | (go_simp; done) | (go_simp; rfl)); (case hp => exact (Reps.none _ _)); intro v214 w5 ho6 hb hg_ hnew_; clear hg_ hnew_; (first | rw [← Ny213.out] at ho6 | (simp only [Int.reduceToNat] at ho6; rw [← Ny213.out] at ho6)); have n0_ := Aside0.mk (Kd.R_elder' (ra_ HO212.out) (Kd.R_base ho6) hb); have n1_ := Aside0.mk (Kd.R_lower (Kd.R_new' ho6 (Kd.R_lt (ra_ HO212.out))) (below_size (bl0_ HB.out))); have n2_ := Aside0.mk (blk_below (g := g0) (o := .cells #[.int .i64 a0_0, .slice A0_1 l0_1.length c0_1] 26 (0, 0)) (bk_ BK0.out) hb); have n3_ := Aside0.mk (below_step (bl0_ HB.out) hb); clear HO212; clear BK0; clear HB; have HO212 := n0_; have HO215 := n1_; have BK0 := n2_; have HB := n3_; clear n0_ n1_ n2_ n3_; clear hb ho6))
 go_loopg [6, 7, 8] k (fun kq v6 v7 v8 w' => ∃ (x6_1 : List Int) (x7_1 : List Int) (x8_1 : Int), v8 = .int .i64 x8_1 ∧ Aside0 (spec_l30Reach.l0 kq a1 x6_1 x7_1 x8_1 a0_0 l0_1 = some (r1, r2)) ∧ Aside0 (kq ≤ k) ∧ Aside0 (Kd.R (Kd.int .i64) 2 w' w.heap.size (fun k_ => some k_ ≠ (v7 : Value).ownBlock) v6 x6_1) ∧ Aside0 (Kd.R (Kd.int .i64) 2 w' w.heap.size (fun k_ => some k_ ≠ (v6 : Value).ownBlock) v7 x7_1) ∧ Aside0 (w'.heap[g0]? = some (.cells #[.int .i64 a0_0, (.slice A0_1 l0_1.length c0_1)] 26 (0, 0))) ∧ Aside0 (Below w.heap.size w w'))
 case atStart => exact ⟨(y210), (y213), (0), rs_, H', ⟨Nat.le_refl _⟩, ⟨by (with_reducible repeat (first | apply Kd.R_alloc | apply Kd.R_drewN | apply Kd.R_drew)); exact Kd.R_mono HO212.out (fun _ hk => hk.2)⟩, ⟨by (with_reducible repeat (first | apply Kd.R_alloc | apply Kd.R_drewN | apply Kd.R_drew)); exact Kd.R_mono HO215.out (fun _ hk => hk.2)⟩, ⟨bk_ BK0.out⟩, ⟨bl0_ HB.out⟩⟩
 case round =>
  clear H'
  try clear p2
  try clear c6
  obtain ⟨x6_1, x7_1, x8_1, rfl, HA, HK1, HO_6, HO_7, BK0, HB⟩ := hrel
  cases gk with
  | zero => exact absurd HA.out (by simp [spec_l30Reach.l0])
  | succ k1 =>
   have H := HA.out
   clear HA
   simp only [spec_l30Reach.l0] at H
   by_cases c7 : x8_1 < a0_0
   ·rw [if_pos c7] at H
    have c7b0 := decide_eq_true c7
    clear c7
    by_cases c8 : x6_1.length < 17592186044416
    rotate_left
    ·exact nope_ c8 H
    rw [if_pos c8] at H
    have LMc8 := Aside0.mk c8
    clear c8
    obtain ⟨y216, hy216⟩ : ∃ y_ : List Int, y_ = (x6_1 ++ [(-1)]) := ⟨_, rfl⟩
    replace H : (if x7_1.length < 17592186044416 then (spec_l30Reach.l0 k1 a1 y216 (x7_1 ++ [(-1)]) (wrap64 (x8_1 + 1)) a0_0 l0_1) else (none)) = some (r1, r2) := yh_ H hy216
    have Ny216 := Aside0.mk hy216
    clear hy216
    by_cases c9 : x7_1.length < 17592186044416
    rotate_left
    ·exact nope_ c9 H
    rw [if_pos c9] at H
    have LMc9 := Aside0.mk c9
    clear c9
    obtain ⟨y219, hy219⟩ : ∃ y_ : List Int, y_ = (x7_1 ++ [(-1)]) := ⟨_, rfl⟩
    replace H : (spec_l30Reach.l0 k1 a1 y216 y219 (wrap64 (x8_1 + 1)) a0_0 l0_1) = some (r1, r2) := yh_ H hy219
    have Ny219 := Aside0.mk hy219
    clear hy219
    have H' := Aside0.mk H
    clear H
    obtain ⟨hcz10_0, hcz10_1, hfz10_0, hfz10_1⟩ := cz2_ BK0.out
    go_wp2_with (first | ((with_reducible refine gate_builtin (b := .append) (xs := #[.tmp 22, .tmp 23]) rfl ?_); at_builtin; refine Kd.R_append (Kd.int .i64) (w0 := w) w.heap.size rfl (.tmp 22) (.tmp 23) 32 2 (.int .i64 0) 8 rfl Tryd.underlying32 info2 rfl (by decide) (by omega) u6 x6_1 (-1) [.int .i64 (-1)] (fun k_ => some k_ ≠ (u7 : Value).ownBlock) (fun _ => False) rfl rfl ?aP (fun _ hk => hk.elim) ?aF ?aO ?aB ?aS ?aL ?_; (case aP => exact rfl); (case aB => exact (bl0_ HB.out)); (case aF => exact (fun k_ hk => Kd.fresh' (Kd.R_lt (ra_ HO_7.out)) k_ hk)); (case aO => exact (ra_ HO_6.out)); (case aS => exact (below_size (bl0_ HB.out))); (case aL => have := LMc8.out; omega); intro v217 w11 ho hb hg hat; rw [← Ny216.out] at ho; have n0_ := Aside0.mk (Kd.R_after (ok := (fun _ => True)) (by (with_reducible repeat (first | apply Kd.R_alloc | apply Kd.R_drewN | apply Kd.R_drew)); exact Kd.R_mono HO_7.out (fun _ hk => ⟨trivial, hk⟩)) hg hat); have n1_ := Aside0.mk (blk_grown (g := g0) (o := .cells #[.int .i64 a0_0, .slice A0_1 l0_1.length c0_1] 26 (0, 0)) (bk_ BK0.out) hg (Kd.R_ne HO_6.out BK0.out (by decide))); have n2_ := Aside0.mk (hb); have n3_ := Aside0.mk (ho); clear HO_7; clear BK0; clear HB; clear HO_6; have HO_7 := n0_; have BK0 := n1_; have HB := n2_; have HO218 := n3_; clear n0_ n1_ n2_ n3_; clear ho hb hg hat) | ((with_reducible refine gate_builtin (b := .append) (xs := #[.tmp 25, .tmp 26]) rfl ?_); at_builtin; refine Kd.R_append (Kd.int .i64) (w0 := w) w.heap.size rfl (.tmp 25) (.tmp 26) 32 2 (.int .i64 0) 8 rfl Tryd.underlying32 info2 rfl (by decide) (by omega) u7 x7_1 (-1) [.int .i64 (-1)] (fun k_ => some k_ ≠ (v217 : Value).ownBlock) (fun _ => False) rfl rfl ?aP (fun _ hk => hk.elim) ?aF ?aO ?aB ?aS ?aL ?_; (case aP => exact rfl); (case aB => exact (bl0_ HB.out)); (case aF => exact (fun k_ hk => Kd.fresh' (Kd.R_lt (ra_ HO218.out)) k_ hk)); (case aO => exact (by (with_reducible repeat (first | apply Kd.R_alloc | apply Kd.R_drewN | apply Kd.R_drew)); exact Kd.R_mono HO_7.out (fun _ hk => hk.2))); (case aS => exact (below_size (bl0_ HB.out))); (case aL => have := LMc9.out; omega); intro v220 w12 ho hb hg hat; rw [← Ny219.out] at ho; have n0_ := Aside0.mk (blk_grown (g := g0) (o := .cells #[.int .i64 a0_0, .slice A0_1 l0_1.length c0_1] 26 (0, 0)) (bk_ BK0.out) hg (Kd.R_ne HO_7.out BK0.out (by decide))); have n1_ := Aside0.mk (Kd.R_after (ok := (fun _ => True)) (by (with_reducible repeat (first | apply Kd.R_alloc | apply Kd.R_drewN | apply Kd.R_drew)); exact Kd.R_mono HO218.out (fun _ hk => ⟨trivial, hk⟩)) hg hat); have n2_ := Aside0.mk (hb); have n3_ := Aside0.mk (ho); clear BK0; clear HO218; clear HB; clear HO_7; have BK0 := n0_; have HO218 := n1_; have HB := n2_; have HO221 := n3_; clear n0_ n1_ n2_ n3_; clear ho hb hg hat))
    go_roundg k1
    case measure => have := HK1.out; omega
    case rel => exact ⟨(y216), (y219), (wrap64 (x8_1 + 1)), rs_, H', ⟨by have := HK1.out; omega⟩, ⟨by (with_reducible repeat (first | apply Kd.R_alloc | apply Kd.R_drewN | apply Kd.R_drew)); exact Kd.R_mono HO218.out (fun _ hk => hk.2)⟩, ⟨ra_ HO221.out⟩, ⟨bk_ BK0.out⟩, ⟨bl0_ HB.out⟩⟩
   ·rw [if_neg c7] at H
    have c7b0 := decide_eq_false c7
    clear c7
    by_cases c13 : 0 ≤ a1
    rotate_left
    ·exact nope_ c13 H
    rw [if_pos c13] at H
    have c13b0 := decide_eq_true c13
    clear c13
    by_cases c14 : a1 < (x6_1.length : Int)
    rotate_left
    ·exact nope_ c14 H
    rw [if_pos c14] at H
    have c14b0 := decide_eq_true c14
    clear c14
    obtain ⟨y222, hy222⟩ : ∃ y_ : List Int, y_ = (x6_1.set (a1 : Int).toNat 0) := ⟨_, rfl⟩
    replace H : (spec_l30Reach.l1 k1 y222 x7_1 true a0_0 l0_1) = some (r1, r2) := yh_ H hy222
    have Ny222 := Aside0.mk hy222
    clear hy222
    have H' := Aside0.mk H
    clear H
    obtain ⟨hcz16_0, hcz16_1, hfz16_0, hfz16_1⟩ := cz2_ BK0.out
    have p15 : 0 ≤ (a1 : Int) := od_
    have q15 : (a1 : Int) < ((x6_1.length : Int) : Int) := od_
    obtain ⟨go15, co15, eo15, gb15, gl15, cl15, HG15⟩ := Kd.R_form HO_6.out (by omega)
    (first | cases eo15 | (injection eo15 with ea_ en_ ec_; (first | subst ea_ | (injection ea_ with ea_; subst ea_)); subst ec_; clear en_))
    have GB15 := Aside0.mk gb15
    have GG15 := Aside0.mk HG15
    clear gb15 gl15 HG15
    obtain ⟨hx15_0, hf15_0⟩ := Kd.R_celln 0 HO_6.out (a1 : Int) p15 q15
    replace p15 := eq_true p15
    replace q15 := eq_true q15
    have HP17 := Kd.R_putg HO_6.out (a1 : Int) 0
    go_wp2_with (first | ((with_reducible refine gate_store (t := 2) (p := 30) rfl ?_); refine store_event (t := 2) (p := 30) (v := ?vo_w18) (w1 := (wr.setCell ⟨go15, (a1 : Int).toNat, none⟩ (.int .i64 0))) ?hg ?ho ?hn ?hr ?_; (case ho => rfl); (case hg => rfl); (case hn => rfl); (case hr => first | (go_simp; done) | (go_simp; rfl)); intro w18 hw; have hg : wr.grownBy w18 (some go15) := (by rw [hw]; exact HP17.2); have hp_ : Kd.R (Kd.int .i64) 2 w18 w.heap.size (fun k_ => some k_ ≠ (u7 : Value).ownBlock) (.slice (some ⟨go15, 0, none⟩) x6_1.length co15) y222 := (by rw [hw, Ny222.out]; exact HP17.1); clear HP17; have n0_ := Aside0.mk (hp_); have n1_ := Aside0.mk (Kd.R_after (v := (.slice (some ⟨go15, 0, none⟩) x6_1.length co15)) (v1 := (.slice (some ⟨go15, 0, none⟩) x6_1.length co15)) (ok := (fun _ => True)) (by (with_reducible repeat (first | apply Kd.R_alloc | apply Kd.R_drewN | apply Kd.R_drew)); exact Kd.R_mono HO_7.out (fun _ hk => ⟨trivial, hk⟩)) hg (.inl rfl)); have n2_ := Aside0.mk (blk_grown (g := g0) (o := .cells #[.int .i64 a0_0, .slice A0_1 l0_1.length c0_1] 26 (0, 0)) (bk_ BK0.out) hg (Kd.R_ne HO_6.out BK0.out (by decide))); have n3_ := Aside0.mk ((by rw [hw]; exact below_set (HB.out) GB15.out : Below w.heap.size w w18)); clear HO_6; clear HO_7; clear BK0; clear HB; have HO_6 := n0_; have HO_7 := n1_; have BK0 := n2_; have HB := n3_; clear n0_ n1_ n2_ n3_; clear hg hw hp_))
    go_loopg [9] k1 (fun kq v9 w' => ∃ (x6_2 : List Int) (x7_2 : List Int) (x9_2 : Bool), v9 = .bool x9_2 ∧ Aside0 (spec_l30Reach.l1 kq x6_2 x7_2 x9_2 a0_0 l0_1 = some (r1, r2)) ∧ Aside0 (kq ≤ k1) ∧ Aside0 (Kd.R (Kd.int .i64) 2 w' w.heap.size (fun k_ => some k_ ≠ (u7 : Value).ownBlock) (.slice (some ⟨go15, 0, none⟩) x6_1.length co15) x6_2) ∧ Aside0 (Kd.R (Kd.int .i64) 2 w' w.heap.size (fun k_ => some k_ ≠ ((.slice (some ⟨go15, 0, none⟩) x6_1.length co15) : Value).ownBlock) u7 x7_2) ∧ Aside0 (w'.heap[g0]? = some (.cells #[.int .i64 a0_0, (.slice A0_1 l0_1.length c0_1)] 26 (0, 0))) ∧ Aside0 (Below w.heap.size w w'))
    case atStart => exact ⟨(y222), (x7_1), (true), rs_, H', ⟨Nat.le_refl _⟩, ⟨ra_ HO_6.out⟩, ⟨by (with_reducible repeat (first | apply Kd.R_alloc | apply Kd.R_drewN | apply Kd.R_drew)); exact Kd.R_mono HO_7.out (fun _ hk => hk.2)⟩, ⟨bk_ BK0.out⟩, ⟨bl0_ HB.out⟩⟩
    case round =>
     clear H'
     try clear c1
     try clear p1
     try clear q1
     try clear hx1
     try clear p2
     try clear c6
     try clear p6
     try clear c7
     try clear c7b0
     try clear c8
     try clear c9
     try clear c13
     try clear c13b0
     try clear c14
     try clear c14b0
     try clear p15
     try clear q15
     try clear hx15
     try clear hf15
     try clear hcz10_0
     try clear hcz10_1
     try clear hcz16_0
     try clear hcz16_1
     try clear hfz10_0
     try clear hfz10_1
     try clear hfz16_0
     try clear hfz16_1
     try clear hx15_0
     try clear p15
     try clear p2
     try clear q15
     obtain ⟨x6_2, x7_2, x9_2, rfl, HA, HK2, HO_6, HO_7, BK0, HB⟩ := hrel
     have hl6_2 := (Kd.R_reads' HO_6.out).1
     rw [hl6_2] at HO_6
     (try simp only [hl6_2])
     (try simp only [hl6_2] at BK0)
     (try simp only [hl6_2] at HO_7)
     cases gk with
     | zero => exact absurd HA.out (by simp [spec_l30Reach.l1])
     | succ k2 =>
      have H := HA.out
      clear HA
      simp only [spec_l30Reach.l1] at H
      by_cases c19 : x9_2 = true
      ·subst c19
       have H1 : (spec_l30Reach.l2 k2 x6_2 x7_2 false 0 a0_0 l0_1) = some (r1, r2) := by rw [if_pos rfl] at H; exact H
       clear H
       have H := H1
       clear H1
       have H' := Aside0.mk H
       clear H
       go_wp2
       go_loopg [9, 10] k2 (fun kq v9 v10 w' => ∃ (x6_3 : List Int) (x7_3 : List Int) (x9_3 : Bool) (x10_3 : Int), v9 = .bool x9_3 ∧ v10 = .int .i64 x10_3 ∧ Aside0 (spec_l30Reach.l2 kq x6_3 x7_3 x9_3 x10_3 a0_0 l0_1 = some (r1, r2)) ∧ Aside0 (kq ≤ k2) ∧ Aside0 (Kd.R (Kd.int .i64) 2 w' w.heap.size (fun k_ => some k_ ≠ (u7 : Value).ownBlock) (.slice (some ⟨go15, 0, none⟩) x6_2.length co15) x6_3) ∧ Aside0 (Kd.R (Kd.int .i64) 2 w' w.heap.size (fun k_ => some k_ ≠ ((.slice (some ⟨go15, 0, none⟩) x6_2.length co15) : Value).ownBlock) u7 x7_3) ∧ Aside0 (w'.heap[g0]? = some (.cells #[.int .i64 a0_0, (.slice A0_1 l0_1.length c0_1)] 26 (0, 0))) ∧ Aside0 (Below w.heap.size w w'))
       case atStart => exact ⟨(x6_2), (x7_2), (false), (0), rs_, rs_, H', ⟨Nat.le_refl _⟩, ⟨by (try simp only [hl6_2]); (with_reducible repeat (first | apply Kd.R_alloc | apply Kd.R_drewN | apply Kd.R_drew)); exact HO_6.out⟩, ⟨by (try simp only [hl6_2]); (with_reducible repeat (first | apply Kd.R_alloc | apply Kd.R_drewN | apply Kd.R_drew)); exact HO_7.out⟩, ⟨by (try simp only [hl6_2]); (with_reducible repeat (first | refine blk_drewN ?_ _ | refine blk_drew ?_ | refine blk_alloc ?_ _)); exact BK0.out⟩, ⟨bl0_ HB.out⟩⟩
       case round =>
        clear H'
        try clear c1
        try clear p1
        try clear q1
        try clear hx1
        try clear p2
        try clear c6
        try clear p6
        try clear c7
        try clear c7b0
        try clear c8
        try clear c9
        try clear c13
        try clear c13b0
        try clear c14
        try clear c14b0
        try clear p15
        try clear q15
        try clear hx15
        try clear hf15
        try clear c19
        try clear hcz10_0
        try clear hcz10_1
        try clear hcz16_0
        try clear hcz16_1
        try clear hfz10_0
        try clear hfz10_1
        try clear hfz16_0
        try clear hfz16_1
        try clear hx15_0
        try clear p1
        try clear p15
        try clear p2
        try clear p6
        try clear q1
        try clear q15
        obtain ⟨x6_3, x7_3, x9_3, x10_3, rfl, rfl, HA, HK3, HO_6, HO_7, BK0, HB⟩ := hrel
        have hl6_3 := (Kd.R_reads' HO_6.out).1
        rw [hl6_3] at HO_6
        (try simp only [hl6_3])
        (try simp only [hl6_3] at BK0)
        (try simp only [hl6_3] at HO_7)
        cases gk with
        | zero => exact absurd HA.out (by simp [spec_l30Reach.l2])
        | succ k3 =>
         have H := HA.out
         clear HA
         simp only [spec_l30Reach.l2] at H
         by_cases c20 : x10_3 < (l0_1.length : Int)
         ·rw [if_pos c20] at H
          have c20b0 := decide_eq_true c20
          clear c20
          by_cases c21 : 0 ≤ x10_3
          rotate_left
          ·exact nope_ c21 H
          rw [if_pos c21] at H
          have c21b0 := decide_eq_true c21
          clear c21
          have HC22 := Aside0.mk H
          clear H
          obtain ⟨hcz23_0, hcz23_1, hfz23_0, hfz23_1⟩ := cz2_ BK0.out
          have p223 : 0 ≤ (x10_3 : Int) := od_
          have q223 : x10_3 < (l0_1.length : Int) := od_
          obtain ⟨ad223, e223, hx223_0, hx223_1, hx223_2⟩ := at_T52 HR0_1.out x10_3 p223 q223
          cases e223
          replace hx223_0 := (HB.out.cell (World.block_lt_of_cell? w _ hx223_0)).trans hx223_0
          replace hx223_1 := (HB.out.cell (World.block_lt_of_cell? w _ hx223_1)).trans hx223_1
          replace hx223_2 := (HB.out.cell (World.block_lt_of_cell? w _ hx223_2)).trans hx223_2
          replace p223 := eq_true p223
          replace q223 := eq_true q223
          go_upto_region 16 with (first | ((with_reducible refine gate_dst (N := 11) rfl ?_); refine box_event ?hg (N := 11) ?hd (cs := #[.int .i64 0, .int .i64 0, .int .i64 0]) (t := 52) ?hr ?_; (case hd => rfl); (case hg => rfl); (case hr => first | (go_simp; done) | (go_simp; rfl)); intro gb224 hg w24 hbox hb; have n0_ := Aside0.mk (Kd.R_below (ra_ HO_6.out) hb); have n1_ := Aside0.mk (Kd.R_below (ra_ HO_7.out) hb); have n2_ := Aside0.mk (blk_below (g := g0) (o := .cells #[.int .i64 a0_0, .slice (some ad223) l0_1.length c0_1] 26 (0, 0)) (bk_ BK0.out) hb); have n3_ := Aside0.mk (below_step (bl0_ HB.out) hb); have n4_ := Aside0.mk (hbox); have n5_ := Aside0.mk ((by rw [hg]; exact (below_size (bl0_ HB.out)) : w.heap.size ≤ gb224)); have n6_ := Aside0.mk ((by rw [hg]; exact (below_size (bl0_ HB.out)) : w.heap.size ≤ gb224)); have n7_ := Aside0.mk ((by rw [hg]; exact Nat.ne_of_lt (blk_lt (g := g0) (o := .cells #[.int .i64 a0_0, .slice (some ad223) l0_1.length c0_1] 26 (0, 0)) (bk_ BK0.out)) : g0 ≠ gb224)); have n8_ := Aside0.mk ((by rw [hg]; exact Nat.ne_of_gt (blk_lt (g := g0) (o := .cells #[.int .i64 a0_0, .slice (some ad223) l0_1.length c0_1] 26 (0, 0)) (bk_ BK0.out)) : gb224 ≠ g0)); clear HO_6; clear HO_7; clear BK0; clear HB; have HO_6 := n0_; have HO_7 := n1_; have BK0 := n2_; have HB := n3_; have BK224 := n4_; have GW224 := n5_; have GE224 := n6_; have NB0_224 := n7_; have NB224_0 := n8_; clear n0_ n1_ n2_ n3_ n4_ n5_ n6_ n7_ n8_; clear hb hbox hg; have hnb25 := NB224_0.out; have hnc25 := NB0_224.out; obtain ⟨hcz26_0, hcz26_1, hcz26_2, hfz26_0, hfz26_1, hfz26_2⟩ := cz3_ BK224.out))
          (try simp only [Act.put, List.setIfInBounds_toArray, List.set_cons_zero, List.set_cons_succ])
          go_cut [61] (fun v61 wc => ∃ (kq : Nat) (x61_21 : Bool), v61 = .bool x61_21 ∧ Aside0 (spec_l30Reach.j3 kq x6_3 x7_3 x9_3 x10_3 x61_21 a0_0 l0_1 ((rd_T52 l0_1 x10_3).f0) ((rd_T52 l0_1 x10_3).f1) ((rd_T52 l0_1 x10_3).f2) = some (r1, r2)) ∧ Aside0 (kq ≤ k3) ∧ Aside0 (Kd.R (Kd.int .i64) 2 wc w.heap.size (fun k_ => some k_ ≠ (u7 : Value).ownBlock) (.slice (some ⟨go15, 0, none⟩) x6_3.length co15) x6_3) ∧ Aside0 (Kd.R (Kd.int .i64) 2 wc w.heap.size (fun k_ => some k_ ≠ ((.slice (some ⟨go15, 0, none⟩) x6_3.length co15) : Value).ownBlock) u7 x7_3) ∧ Aside0 (wc.heap[g0]? = some (.cells #[.int .i64 a0_0, (.slice (some ad223) l0_1.length c0_1)] 26 (0, 0))) ∧ Aside0 (wc.heap[gb224]? = some (.cells #[.int .i64 ((rd_T52 l0_1 x10_3).f0), .int .i64 ((rd_T52 l0_1 x10_3).f1), .int .i64 ((rd_T52 l0_1 x10_3).f2)] 52 (0, 0))) ∧ Aside0 (Below w.heap.size w wc))
          case first =>
           have H := HC22.out
           clear HC22
           by_cases c27 : 0 ≤ ((rd_T52 l0_1 x10_3).f0)
           rotate_left
           ·exact nope_ c27 H
           rw [if_pos c27] at H
           have c27b0 := decide_eq_true c27
           clear c27
           (first | rw [c27b0] | (simp only [i64_w, i32_w]; rw [c27b0]) | skip)
           by_cases c28 : ((rd_T52 l0_1 x10_3).f0) < (x6_3.length : Int)
           rotate_left
           ·exact nope_ c28 H
           rw [if_pos c28] at H
           have c28b0 := decide_eq_true c28
           clear c28
           by_cases c29 : (rd x6_3 ((rd_T52 l0_1 x10_3).f0)) < 0
           ·rw [if_pos c29] at H
            have c29b0 := decide_eq_true c29
            clear c29
            by_cases c30 : 0 ≤ ((rd_T52 l0_1 x10_3).f1)
            rotate_left
            ·exact nope_ c30 H
            rw [if_pos c30] at H
            have c30b0 := decide_eq_true c30
            clear c30
            by_cases c31 : ((rd_T52 l0_1 x10_3).f1) < (x6_3.length : Int)
            rotate_left
            ·exact nope_ c31 H
            rw [if_pos c31] at H
            have c31b0 := decide_eq_true c31
            clear c31
            have H' := Aside0.mk H
            clear H
            have hnb32 := NB224_0.out
            have hnc32 := NB0_224.out
            obtain ⟨hcz33_0, hcz33_1, hcz33_2, hfz33_0, hfz33_1, hfz33_2⟩ := cz3_ BK224.out
            have p225 : 0 ≤ (((rd_T52 l0_1 x10_3).f0) : Int) := od_
            have q225 : ((rd_T52 l0_1 x10_3).f0) < (x6_3.length : Int) := od_
            obtain ⟨ad225, e225, hx225_0⟩ := Kd.at_int (Kd.R_reads' HO_6.out).2.2 ((rd_T52 l0_1 x10_3).f0) p225 q225
            obtain rfl : (⟨go15, 0, none⟩ : Addr) = ad225 := (by injection e225)
            (try first | simp only [add_plain] at hx225_0 | simp only [add_at] at hx225_0 | simp only [Addr.add, Nat.zero_add] at hx225_0)
            have hn225_0 : (⟨go15, 0, none⟩ : Addr).block ≠ gb224 := Kd.own_blk (Kd.R_ne HO_6.out BK224.out (by decide))
            have hn225_1 : (⟨go15, 0, none⟩ : Addr).block ≠ gb224 := Kd.own_blk (Kd.R_ne HO_6.out BK224.out (by decide))
            have hn225_2 : (⟨go15, 0, none⟩ : Addr).block ≠ gb224 := Kd.own_blk (Kd.R_ne HO_6.out BK224.out (by decide))
            replace hx225_0 := (cell_far (p := ⟨gb224, 0, none⟩) (ab_ hn225_0) (.int .i64 ((rd_T52 l0_1 x10_3).f0))).trans hx225_0
            replace hx225_0 := (cell_far (p := ⟨gb224, 1, none⟩) (ab_ hn225_1) (.int .i64 ((rd_T52 l0_1 x10_3).f1))).trans hx225_0
            replace hx225_0 := (cell_far (p := ⟨gb224, 2, none⟩) (ab_ hn225_2) (.int .i64 ((rd_T52 l0_1 x10_3).f2))).trans hx225_0
            clear hn225_0
            clear hn225_1
            clear hn225_2
            replace p225 := eq_true p225
            replace q225 := eq_true q225
            have p226 : 0 ≤ (((rd_T52 l0_1 x10_3).f1) : Int) := od_
            have q226 : ((rd_T52 l0_1 x10_3).f1) < (x6_3.length : Int) := od_
            obtain ⟨ad226, e226, hx226_0⟩ := Kd.at_int (Kd.R_reads' HO_6.out).2.2 ((rd_T52 l0_1 x10_3).f1) p226 q226
            obtain rfl : (⟨go15, 0, none⟩ : Addr) = ad226 := (by injection e226)
            (try first | simp only [add_plain] at hx226_0 | simp only [add_at] at hx226_0 | simp only [Addr.add, Nat.zero_add] at hx226_0)
            have hn226_0 : (⟨go15, 0, none⟩ : Addr).block ≠ gb224 := Kd.own_blk (Kd.R_ne HO_6.out BK224.out (by decide))
            have hn226_1 : (⟨go15, 0, none⟩ : Addr).block ≠ gb224 := Kd.own_blk (Kd.R_ne HO_6.out BK224.out (by decide))
            have hn226_2 : (⟨go15, 0, none⟩ : Addr).block ≠ gb224 := Kd.own_blk (Kd.R_ne HO_6.out BK224.out (by decide))
            replace hx226_0 := (cell_far (p := ⟨gb224, 0, none⟩) (ab_ hn226_0) (.int .i64 ((rd_T52 l0_1 x10_3).f0))).trans hx226_0
            replace hx226_0 := (cell_far (p := ⟨gb224, 1, none⟩) (ab_ hn226_1) (.int .i64 ((rd_T52 l0_1 x10_3).f1))).trans hx226_0
            replace hx226_0 := (cell_far (p := ⟨gb224, 2, none⟩) (ab_ hn226_2) (.int .i64 ((rd_T52 l0_1 x10_3).f2))).trans hx226_0
            clear hn226_0
            clear hn226_1
            clear hn226_2
            replace p226 := eq_true p226
            replace q226 := eq_true q226
            go_wp2
            go_meet
            case rel => exact ⟨_, (decide ((rd x6_3 ((rd_T52 l0_1 x10_3).f1)) ≥ 0)), rs_, H', ⟨by have := HK1.out; have := HK2.out; have := HK3.out; first | omega | exact Nat.le_refl _⟩, ⟨by (try simp only [hl6_2]); (try simp only [hl6_3]); (with_reducible repeat (first | apply Kd.R_alloc | apply Kd.R_drewN | apply Kd.R_drew)); exact Kd.R_mono (Kd.R_far (p := ⟨gb224, 2, none⟩) (Kd.R_far (p := ⟨gb224, 1, none⟩) (Kd.R_far (p := ⟨gb224, 0, none⟩) (Kd.R_types HO_6.out BK224.out (by decide)) (fun _ hk => hk.2) (.int .i64 ((rd_T52 l0_1 x10_3).f0))) (fun _ hk => hk.2) (.int .i64 ((rd_T52 l0_1 x10_3).f1))) (fun _ hk => hk.2) (.int .i64 ((rd_T52 l0_1 x10_3).f2))) (fun _ hk => hk.1)⟩, ⟨by (try simp only [hl6_2]); (try simp only [hl6_3]); (with_reducible repeat (first | apply Kd.R_alloc | apply Kd.R_drewN | apply Kd.R_drew)); exact Kd.R_mono (Kd.R_far (p := ⟨gb224, 2, none⟩) (Kd.R_far (p := ⟨gb224, 1, none⟩) (Kd.R_far (p := ⟨gb224, 0, none⟩) (Kd.R_types HO_7.out BK224.out (by decide)) (fun _ hk => hk.2) (.int .i64 ((rd_T52 l0_1 x10_3).f0))) (fun _ hk => hk.2) (.int .i64 ((rd_T52 l0_1 x10_3).f1))) (fun _ hk => hk.2) (.int .i64 ((rd_T52 l0_1 x10_3).f2))) (fun _ hk => hk.1)⟩, ⟨by (try simp only [hl6_2]); (try simp only [hl6_3]); (with_reducible repeat (first | refine blk_drewN ?_ _ | refine blk_drew ?_ | refine blk_alloc ?_ _)); refine blk_far ?_ NB0_224.out _; (with_reducible repeat (first | refine blk_drewN ?_ _ | refine blk_drew ?_ | refine blk_alloc ?_ _)); refine blk_far ?_ NB0_224.out _; (with_reducible repeat (first | refine blk_drewN ?_ _ | refine blk_drew ?_ | refine blk_alloc ?_ _)); refine blk_far ?_ NB0_224.out _; (with_reducible repeat (first | refine blk_drewN ?_ _ | refine blk_drew ?_ | refine blk_alloc ?_ _)); exact BK0.out⟩, ⟨by (try simp only [hl6_2]); (try simp only [hl6_3]); (with_reducible repeat (first | refine blk_drewN ?_ _ | refine blk_drew ?_ | refine blk_alloc ?_ _)); refine blk_put (cs := #[.int .i64 ((rd_T52 l0_1 x10_3).f0), .int .i64 ((rd_T52 l0_1 x10_3).f1), .int .i64 0]) ?_ 2 _ rfl; (with_reducible repeat (first | refine blk_drewN ?_ _ | refine blk_drew ?_ | refine blk_alloc ?_ _)); refine blk_put (cs := #[.int .i64 ((rd_T52 l0_1 x10_3).f0), .int .i64 0, .int .i64 0]) ?_ 1 _ rfl; (with_reducible repeat (first | refine blk_drewN ?_ _ | refine blk_drew ?_ | refine blk_alloc ?_ _)); refine blk_put (cs := #[.int .i64 0, .int .i64 0, .int .i64 0]) ?_ 0 _ rfl; (with_reducible repeat (first | refine blk_drewN ?_ _ | refine blk_drew ?_ | refine blk_alloc ?_ _)); exact BK224.out⟩, ⟨bl1_ HB.out GE224.out⟩⟩
           ·rw [if_neg c29] at H
            have c29b0 := decide_eq_false c29
            clear c29
            have H' := Aside0.mk H
            clear H
            have hnb34 := NB224_0.out
            have hnc34 := NB0_224.out
            obtain ⟨hcz35_0, hcz35_1, hcz35_2, hfz35_0, hfz35_1, hfz35_2⟩ := cz3_ BK224.out
            have p225 : 0 ≤ (((rd_T52 l0_1 x10_3).f0) : Int) := od_
            have q225 : ((rd_T52 l0_1 x10_3).f0) < (x6_3.length : Int) := od_
            obtain ⟨ad225, e225, hx225_0⟩ := Kd.at_int (Kd.R_reads' HO_6.out).2.2 ((rd_T52 l0_1 x10_3).f0) p225 q225
            obtain rfl : (⟨go15, 0, none⟩ : Addr) = ad225 := (by injection e225)
            (try first | simp only [add_plain] at hx225_0 | simp only [add_at] at hx225_0 | simp only [Addr.add, Nat.zero_add] at hx225_0)
            have hn225_0 : (⟨go15, 0, none⟩ : Addr).block ≠ gb224 := Kd.own_blk (Kd.R_ne HO_6.out BK224.out (by decide))
            have hn225_1 : (⟨go15, 0, none⟩ : Addr).block ≠ gb224 := Kd.own_blk (Kd.R_ne HO_6.out BK224.out (by decide))
            have hn225_2 : (⟨go15, 0, none⟩ : Addr).block ≠ gb224 := Kd.own_blk (Kd.R_ne HO_6.out BK224.out (by decide))
            replace hx225_0 := (cell_far (p := ⟨gb224, 0, none⟩) (ab_ hn225_0) (.int .i64 ((rd_T52 l0_1 x10_3).f0))).trans hx225_0
            replace hx225_0 := (cell_far (p := ⟨gb224, 1, none⟩) (ab_ hn225_1) (.int .i64 ((rd_T52 l0_1 x10_3).f1))).trans hx225_0
            replace hx225_0 := (cell_far (p := ⟨gb224, 2, none⟩) (ab_ hn225_2) (.int .i64 ((rd_T52 l0_1 x10_3).f2))).trans hx225_0
            clear hn225_0
            clear hn225_1
            clear hn225_2
            replace p225 := eq_true p225
            replace q225 := eq_true q225
            go_wp2
            go_meet
            case rel => exact ⟨_, (false), rs_, H', ⟨by have := HK1.out; have := HK2.out; have := HK3.out; first | omega | exact Nat.le_refl _⟩, ⟨by (try simp only [hl6_2]); (try simp only [hl6_3]); (with_reducible repeat (first | apply Kd.R_alloc | apply Kd.R_drewN | apply Kd.R_drew)); exact Kd.R_mono (Kd.R_far (p := ⟨gb224, 2, none⟩) (Kd.R_far (p := ⟨gb224, 1, none⟩) (Kd.R_far (p := ⟨gb224, 0, none⟩) (Kd.R_types HO_6.out BK224.out (by decide)) (fun _ hk => hk.2) (.int .i64 ((rd_T52 l0_1 x10_3).f0))) (fun _ hk => hk.2) (.int .i64 ((rd_T52 l0_1 x10_3).f1))) (fun _ hk => hk.2) (.int .i64 ((rd_T52 l0_1 x10_3).f2))) (fun _ hk => hk.1)⟩, ⟨by (try simp only [hl6_2]); (try simp only [hl6_3]); (with_reducible repeat (first | apply Kd.R_alloc | apply Kd.R_drewN | apply Kd.R_drew)); exact Kd.R_mono (Kd.R_far (p := ⟨gb224, 2, none⟩) (Kd.R_far (p := ⟨gb224, 1, none⟩) (Kd.R_far (p := ⟨gb224, 0, none⟩) (Kd.R_types HO_7.out BK224.out (by decide)) (fun _ hk => hk.2) (.int .i64 ((rd_T52 l0_1 x10_3).f0))) (fun _ hk => hk.2) (.int .i64 ((rd_T52 l0_1 x10_3).f1))) (fun _ hk => hk.2) (.int .i64 ((rd_T52 l0_1 x10_3).f2))) (fun _ hk => hk.1)⟩, ⟨by (try simp only [hl6_2]); (try simp only [hl6_3]); (with_reducible repeat (first | refine blk_drewN ?_ _ | refine blk_drew ?_ | refine blk_alloc ?_ _)); refine blk_far ?_ NB0_224.out _; (with_reducible repeat (first | refine blk_drewN ?_ _ | refine blk_drew ?_ | refine blk_alloc ?_ _)); refine blk_far ?_ NB0_224.out _; (with_reducible repeat (first | refine blk_drewN ?_ _ | refine blk_drew ?_ | refine blk_alloc ?_ _)); refine blk_far ?_ NB0_224.out _; (with_reducible repeat (first | refine blk_drewN ?_ _ | refine blk_drew ?_ | refine blk_alloc ?_ _)); exact BK0.out⟩, ⟨by (try simp only [hl6_2]); (try simp only [hl6_3]); (with_reducible repeat (first | refine blk_drewN ?_ _ | refine blk_drew ?_ | refine blk_alloc ?_ _)); refine blk_put (cs := #[.int .i64 ((rd_T52 l0_1 x10_3).f0), .int .i64 ((rd_T52 l0_1 x10_3).f1), .int .i64 0]) ?_ 2 _ rfl; (with_reducible repeat (first | refine blk_drewN ?_ _ | refine blk_drew ?_ | refine blk_alloc ?_ _)); refine blk_put (cs := #[.int .i64 ((rd_T52 l0_1 x10_3).f0), .int .i64 0, .int .i64 0]) ?_ 1 _ rfl; (with_reducible repeat (first | refine blk_drewN ?_ _ | refine blk_drew ?_ | refine blk_alloc ?_ _)); refine blk_put (cs := #[.int .i64 0, .int .i64 0, .int .i64 0]) ?_ 0 _ rfl; (with_reducible repeat (first | refine blk_drewN ?_ _ | refine blk_drew ?_ | refine blk_alloc ?_ _)); exact BK224.out⟩, ⟨bl1_ HB.out GE224.out⟩⟩
          case rest =>
           clear HC22
           try clear c1
           try clear p1
           try clear q1
           try clear hx1
           try clear c2
           try clear p2
           try clear q2
           try clear hx2
           try clear c3
           try clear c6
           try clear p6
           try clear c7
           try clear c7b0
           try clear c8
           try clear c9
           try clear c13
           try clear c13b0
           try clear c14
           try clear c14b0
           try clear p15
           try clear q15
           try clear hx15
           try clear hf15
           try clear c19
           try clear c20
           try clear c20b0
           try clear c21
           try clear c21b0
           try clear p22
           try clear q22
           try clear hx22
           try clear c25
           try clear c27
           try clear c27b0
           try clear c28
           try clear c28b0
           try clear c29
           try clear c29b0
           try clear c30
           try clear c30b0
           try clear c31
           try clear c31b0
           try clear c32
           try clear c34
           try clear hcz10_0
           try clear hcz10_1
           try clear hcz16_0
           try clear hcz16_1
           try clear hcz23_0
           try clear hcz23_1
           try clear hcz26_0
           try clear hcz26_1
           try clear hcz26_2
           try clear hcz33_0
           try clear hcz33_1
           try clear hcz33_2
           try clear hcz35_0
           try clear hcz35_1
           try clear hcz35_2
           try clear hfz10_0
           try clear hfz10_1
           try clear hfz16_0
           try clear hfz16_1
           try clear hfz23_0
           try clear hfz23_1
           try clear hfz26_0
           try clear hfz26_1
           try clear hfz26_2
           try clear hfz33_0
           try clear hfz33_1
           try clear hfz33_2
           try clear hfz35_0
           try clear hfz35_1
           try clear hfz35_2
           try clear hx15_0
           try clear hx223_0
           try clear hx223_1
           try clear hx223_2
           try clear hx225_0
           try clear hx226_0
           try clear p1
           try clear p15
           try clear p2
           try clear p223
           try clear p225
           try clear p226
           try clear p6
           try clear q1
           try clear q15
           try clear q223
           try clear q225
           try clear q226
           obtain ⟨kq, x61_21, rfl, HA, HJ21, HO_6, HO_7, BK0, BK224, HB⟩ := hcut
           cases kq with
           | zero => exact absurd HA.out (by simp [spec_l30Reach.j3])
           | succ kj21 =>
            have H := HA.out
            clear HA
            simp only [spec_l30Reach.j3] at H
            by_cases c36 : x61_21 = true
            ·subst c36
             have H1 : (if 0 ≤ ((rd_T52 l0_1 x10_3).f1) then (if ((rd_T52 l0_1 x10_3).f1) < (x6_3.length : Int) then (if 0 ≤ ((rd_T52 l0_1 x10_3).f0) then (if ((rd_T52 l0_1 x10_3).f0) < (x6_3.length : Int) then (if ((rd_T52 l0_1 x10_3).f0) < (x7_3.length : Int) then (spec_l30Reach.l2 kj21 (x6_3.set (((rd_T52 l0_1 x10_3).f0) : Int).toNat (wrap64 ((rd x6_3 ((rd_T52 l0_1 x10_3).f1)) + ((rd_T52 l0_1 x10_3).f2)))) (x7_3.set (((rd_T52 l0_1 x10_3).f0) : Int).toNat ((rd_T52 l0_1 x10_3).f1)) true (wrap64 (x10_3 + 1)) a0_0 l0_1) else (none)) else (none)) else (none)) else (none)) else (none)) = some (r1, r2) := by rw [if_pos rfl] at H; exact H
             clear H
             have H := H1
             clear H1
             by_cases c37 : 0 ≤ ((rd_T52 l0_1 x10_3).f1)
             rotate_left
             ·exact nope_ c37 H
             rw [if_pos c37] at H
             have c37b0 := decide_eq_true c37
             clear c37
             by_cases c38 : ((rd_T52 l0_1 x10_3).f1) < (x6_3.length : Int)
             rotate_left
             ·exact nope_ c38 H
             rw [if_pos c38] at H
             have c38b0 := decide_eq_true c38
             clear c38
             by_cases c39 : 0 ≤ ((rd_T52 l0_1 x10_3).f0)
             rotate_left
             ·exact nope_ c39 H
             rw [if_pos c39] at H
             have c39b0 := decide_eq_true c39
             clear c39
             by_cases c40 : ((rd_T52 l0_1 x10_3).f0) < (x6_3.length : Int)
             rotate_left
             ·exact nope_ c40 H
             rw [if_pos c40] at H
             have c40b0 := decide_eq_true c40
             clear c40
             obtain ⟨y228, hy228⟩ : ∃ y_ : List Int, y_ = (x6_3.set (((rd_T52 l0_1 x10_3).f0) : Int).toNat (wrap64 ((rd x6_3 ((rd_T52 l0_1 x10_3).f1)) + ((rd_T52 l0_1 x10_3).f2)))) := ⟨_, rfl⟩
             replace H : (if ((rd_T52 l0_1 x10_3).f0) < (x7_3.length : Int) then (spec_l30Reach.l2 kj21 y228 (x7_3.set (((rd_T52 l0_1 x10_3).f0) : Int).toNat ((rd_T52 l0_1 x10_3).f1)) true (wrap64 (x10_3 + 1)) a0_0 l0_1) else (none)) = some (r1, r2) := yh_ H hy228
             have Ny228 := Aside0.mk hy228
             clear hy228
             by_cases c42 : ((rd_T52 l0_1 x10_3).f0) < (x7_3.length : Int)
             rotate_left
             ·exact nope_ c42 H
             rw [if_pos c42] at H
             have c42b0 := decide_eq_true c42
             clear c42
             obtain ⟨y229, hy229⟩ : ∃ y_ : List Int, y_ = (x7_3.set (((rd_T52 l0_1 x10_3).f0) : Int).toNat ((rd_T52 l0_1 x10_3).f1)) := ⟨_, rfl⟩
             replace H : (spec_l30Reach.l2 kj21 y228 y229 true (wrap64 (x10_3 + 1)) a0_0 l0_1) = some (r1, r2) := yh_ H hy229
             have Ny229 := Aside0.mk hy229
             clear hy229
             have H' := Aside0.mk H
             clear H
             try go_wp2
             have n0_ := Aside0.mk (Kd.R_drew HO_6.out)
             have n1_ := Aside0.mk (Kd.R_drew HO_7.out)
             have n2_ := Aside0.mk (blk_drew BK0.out)
             have n3_ := Aside0.mk (blk_drew BK224.out)
             have n4_ := Aside0.mk (below_drew1 HB.out)
             clear HO_6
             clear HO_7
             clear BK0
             clear BK224
             clear HB
             have HO_6 := n0_
             have HO_7 := n1_
             have BK0 := n2_
             have BK224 := n3_
             have HB := n4_
             clear n0_ n1_ n2_ n3_ n4_
             have p227 : 0 ≤ (((rd_T52 l0_1 x10_3).f1) : Int) := od_
             have q227 : ((rd_T52 l0_1 x10_3).f1) < (x6_3.length : Int) := od_
             obtain ⟨ad227, e227, hx227_0⟩ := Kd.at_int (Kd.R_reads' HO_6.out).2.2 ((rd_T52 l0_1 x10_3).f1) p227 q227
             obtain rfl : (⟨go15, 0, none⟩ : Addr) = ad227 := (by injection e227)
             (try first | simp only [add_plain] at hx227_0 | simp only [add_at] at hx227_0 | simp only [Addr.add, Nat.zero_add] at hx227_0)
             replace p227 := eq_true p227
             replace q227 := eq_true q227
             have p41 : 0 ≤ (((rd_T52 l0_1 x10_3).f0) : Int) := od_
             have q41 : (((rd_T52 l0_1 x10_3).f0) : Int) < ((x6_3.length : Int) : Int) := od_
             obtain ⟨hx41_0, hf41_0⟩ := Kd.R_celln 0 HO_6.out (((rd_T52 l0_1 x10_3).f0) : Int) p41 q41
             replace p41 := eq_true p41
             replace q41 := eq_true q41
             have HP45 := Kd.R_putn HO_6.out (((rd_T52 l0_1 x10_3).f0) : Int) (wrap64 ((rd x6_3 ((rd_T52 l0_1 x10_3).f1)) + ((rd_T52 l0_1 x10_3).f2)))
             rw [← Ny228.out] at HP45
             have HQ45 := Aside0.mk HP45
             clear HP45
             refine start_ (n := 13) (S := fun w' => w'.cell? ⟨gb224, 0, none⟩ = some (.int .i64 ((rd_T52 l0_1 x10_3).f0)) ∧ w'.cell? ⟨gb224, 1, none⟩ = some (.int .i64 ((rd_T52 l0_1 x10_3).f1)) ∧ w'.cell? ⟨gb224, 2, none⟩ = some (.int .i64 ((rd_T52 l0_1 x10_3).f2)) ∧ w'.cell? ⟨go15, (((rd_T52 l0_1 x10_3).f1)).toNat, none⟩ = some (.int .i64 (rd x6_3 ((rd_T52 l0_1 x10_3).f1)))) (ds := [12]) (nb_ 13 0) (by kernel_rfl) rfl rfl ⟨(blk_cell BK224.out 0).trans rfl, (blk_cell BK224.out 1).trans rfl, (blk_cell BK224.out 2).trans rfl, hx227_0⟩ (fun hHeld => ?_); refine with_tabW spec_l30Reach.tab17 spec_l30Reach.bits17 (fun HT_ HW_ => ?_)
             generalize wc.drew = w44 at HO_6 HO_7 BK0 BK224 HB HQ45 hf41_0 hx227_0 hx41_0 hHeld ⊢
             refine puz_ 0 (some 62) (nb_ 13 1) rfl rfl (any_of HT_.out (by kernel_rfl)) ?_
             refine puz_ 1 (some 63) (nb_ 13 3) rfl rfl (any_of HT_.out (by kernel_rfl)) ?_
             refine puz_ 3 (some 65) (nb_ 13 11) rfl rfl (any_of HT_.out (by kernel_rfl)) ?_
             refine puz_ 4 (some 66) (nb_ 13 27) rfl rfl (any_of HT_.out (by kernel_rfl)) ?_
             refine puz_ 8 (some 70) (nb_ 13 283) rfl rfl (any_of HT_.out (by kernel_rfl)) ?_
             refine tkz_ 2 (some 64) (nb_ 13 287) rfl rfl (take_ofW HT_.out HW_.out (by kernel_rfl)) hHeld ?_
             refine tkz_ 5 (some 67) (nb_ 13 319) rfl rfl (take_ofW HT_.out HW_.out (by kernel_rfl)) hHeld ?_
             refine puz_ 6 (some 68) (nb_ 13 383) rfl rfl (any_of HT_.out (by kernel_rfl)) ?_
             refine tkz_ 7 (some 69) (nb_ 13 511) rfl rfl (take_ofW HT_.out HW_.out (by kernel_rfl)) hHeld ?_
             refine tkz_ 9 (some 71) (nb_ 13 1023) rfl rfl (take_ofW HT_.out HW_.out (by kernel_rfl)) hHeld ?_
             refine puz_ 10 (some 72) (nb_ 13 2047) rfl rfl (any_of HT_.out (by kernel_rfl)) ?_
             refine puz_ 11 (some 73) (nb_ 13 4095) rfl rfl (any_of HT_.out (by kernel_rfl)) ?_
             refine last_ (i := 12) (N := none) (nb_ 13 8191) rfl rfl (one_of HT_.out (by kernel_rfl)) (by decide) (fun K hK => ?_)
             refine skip_ (w1 := ?_) (by rfl) rfl ?_ ?_
             rotate_left
             ·go_simp
              rfl
             refine hK.out _ _ ?_
             clear hK K
             refine done_ (done_of HT_.out (by kernel_rfl)) ?_
             have n0_ : Aside0 (Kd.R (Kd.int .i64) 2 (w44.setCell ⟨go15, (((rd_T52 l0_1 x10_3).f0) : Int).toNat, none⟩ (.int .i64 (wrap64 ((rd x6_3 ((rd_T52 l0_1 x10_3).f1)) + ((rd_T52 l0_1 x10_3).f2))))) w.heap.size (fun k_ => some k_ ≠ (u7 : Value).ownBlock) (.slice (some ⟨go15, 0, none⟩) x6_3.length co15) y228) := ⟨by (with_reducible repeat (first | apply Kd.R_alloc | apply Kd.R_drewN | apply Kd.R_drew)); exact HQ45.out⟩
             have n1_ : Aside0 (Kd.R (Kd.int .i64) 2 (w44.setCell ⟨go15, (((rd_T52 l0_1 x10_3).f0) : Int).toNat, none⟩ (.int .i64 (wrap64 ((rd x6_3 ((rd_T52 l0_1 x10_3).f1)) + ((rd_T52 l0_1 x10_3).f2))))) w.heap.size (fun k_ => some k_ ≠ (.slice (some ⟨go15, 0, none⟩) x6_3.length co15 : Value).ownBlock) u7 x7_3) := ⟨by (with_reducible repeat (first | apply Kd.R_alloc | apply Kd.R_drewN | apply Kd.R_drew)); exact Kd.R_mono (Kd.R_far (p := ⟨go15, (((rd_T52 l0_1 x10_3).f0) : Int).toNat, none⟩) (Kd.R_mono HO_7.out (fun k_ hk => (⟨hk, fun e_ => hk (by rw [e_]; rfl)⟩ : _ ∧ k_ ≠ go15))) (fun _ hk => hk.2) (.int .i64 (wrap64 ((rd x6_3 ((rd_T52 l0_1 x10_3).f1)) + ((rd_T52 l0_1 x10_3).f2))))) (fun _ hk => hk.1)⟩
             have n2_ : Aside0 ((w44.setCell ⟨go15, (((rd_T52 l0_1 x10_3).f0) : Int).toNat, none⟩ (.int .i64 (wrap64 ((rd x6_3 ((rd_T52 l0_1 x10_3).f1)) + ((rd_T52 l0_1 x10_3).f2))))).heap[g0]? = some (.cells #[.int .i64 a0_0, .slice (some ad223) l0_1.length c0_1] 26 (0, 0))) := ⟨by (with_reducible repeat (first | refine blk_drewN ?_ _ | refine blk_drew ?_ | refine blk_alloc ?_ _)); refine blk_far ?_ (by have h_ := Kd.R_ne HO_6.out BK0.out (by decide); intro e_; exact h_ (by rw [e_]; rfl)) _; (with_reducible repeat (first | refine blk_drewN ?_ _ | refine blk_drew ?_ | refine blk_alloc ?_ _)); exact BK0.out⟩
             have n3_ : Aside0 ((w44.setCell ⟨go15, (((rd_T52 l0_1 x10_3).f0) : Int).toNat, none⟩ (.int .i64 (wrap64 ((rd x6_3 ((rd_T52 l0_1 x10_3).f1)) + ((rd_T52 l0_1 x10_3).f2))))).heap[gb224]? = some (.cells #[.int .i64 ((rd_T52 l0_1 x10_3).f0), .int .i64 ((rd_T52 l0_1 x10_3).f1), .int .i64 ((rd_T52 l0_1 x10_3).f2)] 52 (0, 0))) := ⟨by (with_reducible repeat (first | refine blk_drewN ?_ _ | refine blk_drew ?_ | refine blk_alloc ?_ _)); refine blk_far ?_ (by have h_ := Kd.R_ne HO_6.out BK224.out (by decide); intro e_; exact h_ (by rw [e_]; rfl)) _; (with_reducible repeat (first | refine blk_drewN ?_ _ | refine blk_drew ?_ | refine blk_alloc ?_ _)); exact BK224.out⟩
             have n4_ : Aside0 (Below w.heap.size w (w44.setCell ⟨go15, (((rd_T52 l0_1 x10_3).f0) : Int).toNat, none⟩ (.int .i64 (wrap64 ((rd x6_3 ((rd_T52 l0_1 x10_3).f1)) + ((rd_T52 l0_1 x10_3).f2)))))) := ⟨by repeat (first | (with_reducible first | exact HB.out | apply below_alloc | apply pw_below_drewN | apply below_drew1 | refine below_set ?_ GB15.out | refine below_set ?_ GE224.out) | exact HB.out)⟩
             (try clear HO_6)
             (try clear HO_7)
             (try clear BK0)
             (try clear BK224)
             (try clear HB)
             generalize (w44.setCell ⟨go15, (((rd_T52 l0_1 x10_3).f0) : Int).toNat, none⟩ (.int .i64 (wrap64 ((rd x6_3 ((rd_T52 l0_1 x10_3).f1)) + ((rd_T52 l0_1 x10_3).f2))))) = w46 at n0_ n1_ n2_ n3_ n4_ ⊢
             have HO_6 := n0_
             have HO_7 := n1_
             have BK0 := n2_
             have BK224 := n3_
             have HB := n4_
             clear n0_ n1_ n2_ n3_ n4_
             have hnb47 := NB224_0.out
             have hnc47 := NB0_224.out
             obtain ⟨hcz48_0, hcz48_1, hcz48_2, hfz48_0, hfz48_1, hfz48_2⟩ := cz3_ BK224.out
             have p43 : 0 ≤ (((rd_T52 l0_1 x10_3).f0) : Int) := od_
             have q43 : (((rd_T52 l0_1 x10_3).f0) : Int) < ((x7_3.length : Int) : Int) := od_
             obtain ⟨go43, co43, eo43, gb43, gl43, cl43, HG43⟩ := Kd.R_form HO_7.out (by omega)
             (first | cases eo43 | (injection eo43 with ea_ en_ ec_; (first | subst ea_ | (injection ea_ with ea_; subst ea_)); subst ec_; clear en_))
             have GB43 := Aside0.mk gb43
             have GG43 := Aside0.mk HG43
             clear gb43 gl43 HG43
             obtain ⟨hx43_0, hf43_0⟩ := Kd.R_celln 0 HO_7.out (((rd_T52 l0_1 x10_3).f0) : Int) p43 q43
             replace p43 := eq_true p43
             replace q43 := eq_true q43
             obtain ⟨hy49_, hz49_⟩ := Kd.R_celln 0 HO_7.out (((rd_T52 l0_1 x10_3).f0) : Int) (od_) (od_)
             have HP49 := Kd.R_putg HO_7.out (((rd_T52 l0_1 x10_3).f0) : Int) ((rd_T52 l0_1 x10_3).f1)
             try go_wp2_with (first | ((with_reducible refine gate_store (t := 2) (p := 79) rfl ?_); refine store_event (t := 2) (p := 79) (v := ?vo_w50) (w1 := (w46.setCell ⟨go43, (((rd_T52 l0_1 x10_3).f0) : Int).toNat, none⟩ (.int .i64 ((rd_T52 l0_1 x10_3).f1)))) ?hg ?ho ?hn ?hr ?_; (case ho => rfl); (case hg => rfl); (case hn => rfl); (case hr => first | (go_simp; done) | (go_simp; rfl)); intro w50 hw; have hg : w46.grownBy w50 (some go43) := (by rw [hw]; exact HP49.2); have hp_ : Kd.R (Kd.int .i64) 2 w50 w.heap.size (fun k_ => some k_ ≠ (.slice (some ⟨go15, 0, none⟩) x6_3.length co15 : Value).ownBlock) (.slice (some ⟨go43, 0, none⟩) x7_3.length co43) y229 := (by rw [hw, Ny229.out]; exact HP49.1); clear HP49; have n0_ := Aside0.mk (Kd.R_after (v := (.slice (some ⟨go43, 0, none⟩) x7_3.length co43)) (v1 := (.slice (some ⟨go43, 0, none⟩) x7_3.length co43)) (ok := (fun _ => True)) (by (with_reducible repeat (first | apply Kd.R_alloc | apply Kd.R_drewN | apply Kd.R_drew)); exact Kd.R_mono HO_6.out (fun _ hk => ⟨trivial, hk⟩)) hg (.inl rfl)); have n1_ := Aside0.mk (hp_); have n2_ := Aside0.mk (blk_grown (g := g0) (o := .cells #[.int .i64 a0_0, .slice (some ad223) l0_1.length c0_1] 26 (0, 0)) (bk_ BK0.out) hg (Kd.R_ne HO_7.out BK0.out (by decide))); have n3_ := Aside0.mk (blk_grown (g := gb224) (o := .cells #[.int .i64 ((rd_T52 l0_1 x10_3).f0), .int .i64 ((rd_T52 l0_1 x10_3).f1), .int .i64 ((rd_T52 l0_1 x10_3).f2)] 52 (0, 0)) (bk_ BK224.out) hg (Kd.R_ne HO_7.out BK224.out (by decide))); have n4_ := Aside0.mk ((by rw [hw]; exact below_set (HB.out) GB43.out : Below w.heap.size w w50)); clear HO_6; clear HO_7; clear BK0; clear BK224; clear HB; have HO_6 := n0_; have HO_7 := n1_; have BK0 := n2_; have BK224 := n3_; have HB := n4_; clear n0_ n1_ n2_ n3_ n4_; clear hg hw hp_))
             (try simp only [← hl6_3])
             go_roundg kj21
             case measure => have := HK1.out; have := HK2.out; have := HK3.out; have := HJ21.out; omega
             case rel => exact ⟨(y228), (y229), (true), (wrap64 (x10_3 + 1)), rs_, rs_, H', ⟨by have := HK1.out; have := HK2.out; have := HK3.out; have := HJ21.out; omega⟩, ⟨by (try simp only [hl6_2]); (try simp only [hl6_3]); (with_reducible repeat (first | apply Kd.R_alloc | apply Kd.R_drewN | apply Kd.R_drew)); exact Kd.R_mono HO_6.out (fun _ hk => hk.2)⟩, ⟨by (try simp only [hl6_2]); (try simp only [hl6_3]); (with_reducible repeat (first | apply Kd.R_alloc | apply Kd.R_drewN | apply Kd.R_drew)); exact HO_7.out⟩, ⟨by (try simp only [hl6_2]); (try simp only [hl6_3]); (with_reducible repeat (first | refine blk_drewN ?_ _ | refine blk_drew ?_ | refine blk_alloc ?_ _)); exact BK0.out⟩, ⟨bl1_ HB.out GE224.out⟩⟩
            ·replace c36 := Bool.eq_false_iff.mpr c36
             subst c36
             have H1 : (if 0 ≤ ((rd_T52 l0_1 x10_3).f1) then (if ((rd_T52 l0_1 x10_3).f1) < (x6_3.length : Int) then (if (rd x6_3 ((rd_T52 l0_1 x10_3).f1)) < 0 then (if 0 ≤ ((rd_T52 l0_1 x10_3).f0) then (if ((rd_T52 l0_1 x10_3).f0) < (x6_3.length : Int) then (if (rd x6_3 ((rd_T52 l0_1 x10_3).f0)) ≥ 0 then (if ((rd_T52 l0_1 x10_3).f1) < (x7_3.length : Int) then (spec_l30Reach.l2 kj21 (x6_3.set (((rd_T52 l0_1 x10_3).f1) : Int).toNat (wrap64 ((rd x6_3 ((rd_T52 l0_1 x10_3).f0)) + ((rd_T52 l0_1 x10_3).f2)))) (x7_3.set (((rd_T52 l0_1 x10_3).f1) : Int).toNat ((rd_T52 l0_1 x10_3).f0)) true (wrap64 (x10_3 + 1)) a0_0 l0_1) else (none)) else (spec_l30Reach.l2 kj21 x6_3 x7_3 x9_3 (wrap64 (x10_3 + 1)) a0_0 l0_1)) else (none)) else (none)) else (spec_l30Reach.l2 kj21 x6_3 x7_3 x9_3 (wrap64 (x10_3 + 1)) a0_0 l0_1)) else (none)) else (none)) = some (r1, r2) := by rw [if_neg (show ¬ (false = true) by decide)] at H; exact H
             clear H
             have H := H1
             clear H1
             by_cases c51 : 0 ≤ ((rd_T52 l0_1 x10_3).f1)
             rotate_left
             ·exact nope_ c51 H
             rw [if_pos c51] at H
             have c51b0 := decide_eq_true c51
             clear c51
             by_cases c52 : ((rd_T52 l0_1 x10_3).f1) < (x6_3.length : Int)
             rotate_left
             ·exact nope_ c52 H
             rw [if_pos c52] at H
             have c52b0 := decide_eq_true c52
             clear c52
             by_cases c53 : (rd x6_3 ((rd_T52 l0_1 x10_3).f1)) < 0
             ·rw [if_pos c53] at H
              have c53b0 := decide_eq_true c53
              clear c53
              by_cases c54 : 0 ≤ ((rd_T52 l0_1 x10_3).f0)
              rotate_left
              ·exact nope_ c54 H
              rw [if_pos c54] at H
              have c54b0 := decide_eq_true c54
              clear c54
              by_cases c55 : ((rd_T52 l0_1 x10_3).f0) < (x6_3.length : Int)
              rotate_left
              ·exact nope_ c55 H
              rw [if_pos c55] at H
              have c55b0 := decide_eq_true c55
              clear c55
              by_cases c56 : (rd x6_3 ((rd_T52 l0_1 x10_3).f0)) ≥ 0
              ·rw [if_pos c56] at H
               have c56b0 : decide (0 ≤ (rd x6_3 ((rd_T52 l0_1 x10_3).f0))) = true := decide_eq_true c56
               clear c56
               obtain ⟨y233, hy233⟩ : ∃ y_ : List Int, y_ = (x6_3.set (((rd_T52 l0_1 x10_3).f1) : Int).toNat (wrap64 ((rd x6_3 ((rd_T52 l0_1 x10_3).f0)) + ((rd_T52 l0_1 x10_3).f2)))) := ⟨_, rfl⟩
               replace H : (if ((rd_T52 l0_1 x10_3).f1) < (x7_3.length : Int) then (spec_l30Reach.l2 kj21 y233 (x7_3.set (((rd_T52 l0_1 x10_3).f1) : Int).toNat ((rd_T52 l0_1 x10_3).f0)) true (wrap64 (x10_3 + 1)) a0_0 l0_1) else (none)) = some (r1, r2) := yh_ H hy233
               have Ny233 := Aside0.mk hy233
               clear hy233
               by_cases c58 : ((rd_T52 l0_1 x10_3).f1) < (x7_3.length : Int)
               rotate_left
               ·exact nope_ c58 H
               rw [if_pos c58] at H
               have c58b0 := decide_eq_true c58
               clear c58
               obtain ⟨y234, hy234⟩ : ∃ y_ : List Int, y_ = (x7_3.set (((rd_T52 l0_1 x10_3).f1) : Int).toNat ((rd_T52 l0_1 x10_3).f0)) := ⟨_, rfl⟩
               replace H : (spec_l30Reach.l2 kj21 y233 y234 true (wrap64 (x10_3 + 1)) a0_0 l0_1) = some (r1, r2) := yh_ H hy234
               have Ny234 := Aside0.mk hy234
               clear hy234
               have H' := Aside0.mk H
               clear H
               have hnb60 := NB224_0.out
               have hnc60 := NB0_224.out
               obtain ⟨hcz61_0, hcz61_1, hcz61_2, hfz61_0, hfz61_1, hfz61_2⟩ := cz3_ BK224.out
               have p230 : 0 ≤ (((rd_T52 l0_1 x10_3).f1) : Int) := od_
               have q230 : ((rd_T52 l0_1 x10_3).f1) < (x6_3.length : Int) := od_
               obtain ⟨ad230, e230, hx230_0⟩ := Kd.at_int (Kd.R_reads' HO_6.out).2.2 ((rd_T52 l0_1 x10_3).f1) p230 q230
               obtain rfl : (⟨go15, 0, none⟩ : Addr) = ad230 := (by injection e230)
               (try first | simp only [add_plain] at hx230_0 | simp only [add_at] at hx230_0 | simp only [Addr.add, Nat.zero_add] at hx230_0)
               replace p230 := eq_true p230
               replace q230 := eq_true q230
               have p231 : 0 ≤ (((rd_T52 l0_1 x10_3).f0) : Int) := od_
               have q231 : ((rd_T52 l0_1 x10_3).f0) < (x6_3.length : Int) := od_
               obtain ⟨ad231, e231, hx231_0⟩ := Kd.at_int (Kd.R_reads' HO_6.out).2.2 ((rd_T52 l0_1 x10_3).f0) p231 q231
               obtain rfl : (⟨go15, 0, none⟩ : Addr) = ad231 := (by injection e231)
               (try first | simp only [add_plain] at hx231_0 | simp only [add_at] at hx231_0 | simp only [Addr.add, Nat.zero_add] at hx231_0)
               replace p231 := eq_true p231
               replace q231 := eq_true q231
               try go_wp2
               have n0_ := Aside0.mk (Kd.R_drew HO_6.out)
               have n1_ := Aside0.mk (Kd.R_drew HO_7.out)
               have n2_ := Aside0.mk (blk_drew BK0.out)
               have n3_ := Aside0.mk (blk_drew BK224.out)
               have n4_ := Aside0.mk (below_drew1 HB.out)
               clear HO_6
               clear HO_7
               clear BK0
               clear BK224
               clear HB
               have HO_6 := n0_
               have HO_7 := n1_
               have BK0 := n2_
               have BK224 := n3_
               have HB := n4_
               clear n0_ n1_ n2_ n3_ n4_
               have p232 : 0 ≤ (((rd_T52 l0_1 x10_3).f0) : Int) := od_
               have q232 : ((rd_T52 l0_1 x10_3).f0) < (x6_3.length : Int) := od_
               obtain ⟨ad232, e232, hx232_0⟩ := Kd.at_int (Kd.R_reads' HO_6.out).2.2 ((rd_T52 l0_1 x10_3).f0) p232 q232
               obtain rfl : (⟨go15, 0, none⟩ : Addr) = ad232 := (by injection e232)
               (try first | simp only [add_plain] at hx232_0 | simp only [add_at] at hx232_0 | simp only [Addr.add, Nat.zero_add] at hx232_0)
               replace p232 := eq_true p232
               replace q232 := eq_true q232
               have p57 : 0 ≤ (((rd_T52 l0_1 x10_3).f1) : Int) := od_
               have q57 : (((rd_T52 l0_1 x10_3).f1) : Int) < ((x6_3.length : Int) : Int) := od_
               obtain ⟨hx57_0, hf57_0⟩ := Kd.R_celln 0 HO_6.out (((rd_T52 l0_1 x10_3).f1) : Int) p57 q57
               replace p57 := eq_true p57
               replace q57 := eq_true q57
               have HP63 := Kd.R_putn HO_6.out (((rd_T52 l0_1 x10_3).f1) : Int) (wrap64 ((rd x6_3 ((rd_T52 l0_1 x10_3).f0)) + ((rd_T52 l0_1 x10_3).f2)))
               rw [← Ny233.out] at HP63
               have HQ63 := Aside0.mk HP63
               clear HP63
               refine start_ (n := 13) (S := fun w' => w'.cell? ⟨gb224, 0, none⟩ = some (.int .i64 ((rd_T52 l0_1 x10_3).f0)) ∧ w'.cell? ⟨gb224, 1, none⟩ = some (.int .i64 ((rd_T52 l0_1 x10_3).f1)) ∧ w'.cell? ⟨gb224, 2, none⟩ = some (.int .i64 ((rd_T52 l0_1 x10_3).f2)) ∧ w'.cell? ⟨go15, (((rd_T52 l0_1 x10_3).f0)).toNat, none⟩ = some (.int .i64 (rd x6_3 ((rd_T52 l0_1 x10_3).f0)))) (ds := [12]) (nb_ 13 0) (by kernel_rfl) rfl rfl ⟨(blk_cell BK224.out 0).trans rfl, (blk_cell BK224.out 1).trans rfl, (blk_cell BK224.out 2).trans rfl, hx232_0⟩ (fun hHeld => ?_); refine with_tabW spec_l30Reach.tab21 spec_l30Reach.bits21 (fun HT_ HW_ => ?_)
               generalize wc.drew = w62 at HO_6 HO_7 BK0 BK224 HB HQ63 hf57_0 hx232_0 hx57_0 hHeld ⊢
               refine puz_ 0 (some 94) (nb_ 13 1) rfl rfl (any_of HT_.out (by kernel_rfl)) ?_
               refine puz_ 1 (some 95) (nb_ 13 3) rfl rfl (any_of HT_.out (by kernel_rfl)) ?_
               refine puz_ 3 (some 97) (nb_ 13 11) rfl rfl (any_of HT_.out (by kernel_rfl)) ?_
               refine puz_ 4 (some 98) (nb_ 13 27) rfl rfl (any_of HT_.out (by kernel_rfl)) ?_
               refine puz_ 8 (some 102) (nb_ 13 283) rfl rfl (any_of HT_.out (by kernel_rfl)) ?_
               refine tkz_ 2 (some 96) (nb_ 13 287) rfl rfl (take_ofW HT_.out HW_.out (by kernel_rfl)) hHeld ?_
               refine tkz_ 5 (some 99) (nb_ 13 319) rfl rfl (take_ofW HT_.out HW_.out (by kernel_rfl)) hHeld ?_
               refine puz_ 6 (some 100) (nb_ 13 383) rfl rfl (any_of HT_.out (by kernel_rfl)) ?_
               refine tkz_ 7 (some 101) (nb_ 13 511) rfl rfl (take_ofW HT_.out HW_.out (by kernel_rfl)) hHeld ?_
               refine tkz_ 9 (some 103) (nb_ 13 1023) rfl rfl (take_ofW HT_.out HW_.out (by kernel_rfl)) hHeld ?_
               refine puz_ 10 (some 104) (nb_ 13 2047) rfl rfl (any_of HT_.out (by kernel_rfl)) ?_
               refine puz_ 11 (some 105) (nb_ 13 4095) rfl rfl (any_of HT_.out (by kernel_rfl)) ?_
               refine last_ (i := 12) (N := none) (nb_ 13 8191) rfl rfl (one_of HT_.out (by kernel_rfl)) (by decide) (fun K hK => ?_)
               refine skip_ (w1 := ?_) (by rfl) rfl ?_ ?_
               rotate_left
               ·go_simp
                rfl
               refine hK.out _ _ ?_
               clear hK K
               refine done_ (done_of HT_.out (by kernel_rfl)) ?_
               have n0_ : Aside0 (Kd.R (Kd.int .i64) 2 (w62.setCell ⟨go15, (((rd_T52 l0_1 x10_3).f1) : Int).toNat, none⟩ (.int .i64 (wrap64 ((rd x6_3 ((rd_T52 l0_1 x10_3).f0)) + ((rd_T52 l0_1 x10_3).f2))))) w.heap.size (fun k_ => some k_ ≠ (u7 : Value).ownBlock) (.slice (some ⟨go15, 0, none⟩) x6_3.length co15) y233) := ⟨by (with_reducible repeat (first | apply Kd.R_alloc | apply Kd.R_drewN | apply Kd.R_drew)); exact HQ63.out⟩
               have n1_ : Aside0 (Kd.R (Kd.int .i64) 2 (w62.setCell ⟨go15, (((rd_T52 l0_1 x10_3).f1) : Int).toNat, none⟩ (.int .i64 (wrap64 ((rd x6_3 ((rd_T52 l0_1 x10_3).f0)) + ((rd_T52 l0_1 x10_3).f2))))) w.heap.size (fun k_ => some k_ ≠ (.slice (some ⟨go15, 0, none⟩) x6_3.length co15 : Value).ownBlock) u7 x7_3) := ⟨by (with_reducible repeat (first | apply Kd.R_alloc | apply Kd.R_drewN | apply Kd.R_drew)); exact Kd.R_mono (Kd.R_far (p := ⟨go15, (((rd_T52 l0_1 x10_3).f1) : Int).toNat, none⟩) (Kd.R_mono HO_7.out (fun k_ hk => (⟨hk, fun e_ => hk (by rw [e_]; rfl)⟩ : _ ∧ k_ ≠ go15))) (fun _ hk => hk.2) (.int .i64 (wrap64 ((rd x6_3 ((rd_T52 l0_1 x10_3).f0)) + ((rd_T52 l0_1 x10_3).f2))))) (fun _ hk => hk.1)⟩
               have n2_ : Aside0 ((w62.setCell ⟨go15, (((rd_T52 l0_1 x10_3).f1) : Int).toNat, none⟩ (.int .i64 (wrap64 ((rd x6_3 ((rd_T52 l0_1 x10_3).f0)) + ((rd_T52 l0_1 x10_3).f2))))).heap[g0]? = some (.cells #[.int .i64 a0_0, .slice (some ad223) l0_1.length c0_1] 26 (0, 0))) := ⟨by (with_reducible repeat (first | refine blk_drewN ?_ _ | refine blk_drew ?_ | refine blk_alloc ?_ _)); refine blk_far ?_ (by have h_ := Kd.R_ne HO_6.out BK0.out (by decide); intro e_; exact h_ (by rw [e_]; rfl)) _; (with_reducible repeat (first | refine blk_drewN ?_ _ | refine blk_drew ?_ | refine blk_alloc ?_ _)); exact BK0.out⟩
               have n3_ : Aside0 ((w62.setCell ⟨go15, (((rd_T52 l0_1 x10_3).f1) : Int).toNat, none⟩ (.int .i64 (wrap64 ((rd x6_3 ((rd_T52 l0_1 x10_3).f0)) + ((rd_T52 l0_1 x10_3).f2))))).heap[gb224]? = some (.cells #[.int .i64 ((rd_T52 l0_1 x10_3).f0), .int .i64 ((rd_T52 l0_1 x10_3).f1), .int .i64 ((rd_T52 l0_1 x10_3).f2)] 52 (0, 0))) := ⟨by (with_reducible repeat (first | refine blk_drewN ?_ _ | refine blk_drew ?_ | refine blk_alloc ?_ _)); refine blk_far ?_ (by have h_ := Kd.R_ne HO_6.out BK224.out (by decide); intro e_; exact h_ (by rw [e_]; rfl)) _; (with_reducible repeat (first | refine blk_drewN ?_ _ | refine blk_drew ?_ | refine blk_alloc ?_ _)); exact BK224.out⟩
               have n4_ : Aside0 (Below w.heap.size w (w62.setCell ⟨go15, (((rd_T52 l0_1 x10_3).f1) : Int).toNat, none⟩ (.int .i64 (wrap64 ((rd x6_3 ((rd_T52 l0_1 x10_3).f0)) + ((rd_T52 l0_1 x10_3).f2)))))) := ⟨by repeat (first | (with_reducible first | exact HB.out | apply below_alloc | apply pw_below_drewN | apply below_drew1 | refine below_set ?_ GB15.out | refine below_set ?_ GE224.out) | exact HB.out)⟩
               (try clear HO_6)
               (try clear HO_7)
               (try clear BK0)
               (try clear BK224)
               (try clear HB)
               generalize (w62.setCell ⟨go15, (((rd_T52 l0_1 x10_3).f1) : Int).toNat, none⟩ (.int .i64 (wrap64 ((rd x6_3 ((rd_T52 l0_1 x10_3).f0)) + ((rd_T52 l0_1 x10_3).f2))))) = w64 at n0_ n1_ n2_ n3_ n4_ ⊢
               have HO_6 := n0_
               have HO_7 := n1_
               have BK0 := n2_
               have BK224 := n3_
               have HB := n4_
               clear n0_ n1_ n2_ n3_ n4_
               obtain ⟨hcz65_0, hcz65_1, hcz65_2, hfz65_0, hfz65_1, hfz65_2⟩ := cz3_ BK224.out
               have p59 : 0 ≤ (((rd_T52 l0_1 x10_3).f1) : Int) := od_
               have q59 : (((rd_T52 l0_1 x10_3).f1) : Int) < ((x7_3.length : Int) : Int) := od_
               obtain ⟨go59, co59, eo59, gb59, gl59, cl59, HG59⟩ := Kd.R_form HO_7.out (by omega)
               (first | cases eo59 | (injection eo59 with ea_ en_ ec_; (first | subst ea_ | (injection ea_ with ea_; subst ea_)); subst ec_; clear en_))
               have GB59 := Aside0.mk gb59
               have GG59 := Aside0.mk HG59
               clear gb59 gl59 HG59
               obtain ⟨hx59_0, hf59_0⟩ := Kd.R_celln 0 HO_7.out (((rd_T52 l0_1 x10_3).f1) : Int) p59 q59
               replace p59 := eq_true p59
               replace q59 := eq_true q59
               obtain ⟨hy66_, hz66_⟩ := Kd.R_celln 0 HO_7.out (((rd_T52 l0_1 x10_3).f1) : Int) (od_) (od_)
               have HP66 := Kd.R_putg HO_7.out (((rd_T52 l0_1 x10_3).f1) : Int) ((rd_T52 l0_1 x10_3).f0)
               try go_wp2_with (first | ((with_reducible refine gate_store (t := 2) (p := 111) rfl ?_); refine store_event (t := 2) (p := 111) (v := ?vo_w67) (w1 := (w64.setCell ⟨go59, (((rd_T52 l0_1 x10_3).f1) : Int).toNat, none⟩ (.int .i64 ((rd_T52 l0_1 x10_3).f0)))) ?hg ?ho ?hn ?hr ?_; (case ho => rfl); (case hg => rfl); (case hn => rfl); (case hr => first | (go_simp; done) | (go_simp; rfl)); intro w67 hw; have hg : w64.grownBy w67 (some go59) := (by rw [hw]; exact HP66.2); have hp_ : Kd.R (Kd.int .i64) 2 w67 w.heap.size (fun k_ => some k_ ≠ (.slice (some ⟨go15, 0, none⟩) x6_3.length co15 : Value).ownBlock) (.slice (some ⟨go59, 0, none⟩) x7_3.length co59) y234 := (by rw [hw, Ny234.out]; exact HP66.1); clear HP66; have n0_ := Aside0.mk (Kd.R_after (v := (.slice (some ⟨go59, 0, none⟩) x7_3.length co59)) (v1 := (.slice (some ⟨go59, 0, none⟩) x7_3.length co59)) (ok := (fun _ => True)) (by (with_reducible repeat (first | apply Kd.R_alloc | apply Kd.R_drewN | apply Kd.R_drew)); exact Kd.R_mono HO_6.out (fun _ hk => ⟨trivial, hk⟩)) hg (.inl rfl)); have n1_ := Aside0.mk (hp_); have n2_ := Aside0.mk (blk_grown (g := g0) (o := .cells #[.int .i64 a0_0, .slice (some ad223) l0_1.length c0_1] 26 (0, 0)) (bk_ BK0.out) hg (Kd.R_ne HO_7.out BK0.out (by decide))); have n3_ := Aside0.mk (blk_grown (g := gb224) (o := .cells #[.int .i64 ((rd_T52 l0_1 x10_3).f0), .int .i64 ((rd_T52 l0_1 x10_3).f1), .int .i64 ((rd_T52 l0_1 x10_3).f2)] 52 (0, 0)) (bk_ BK224.out) hg (Kd.R_ne HO_7.out BK224.out (by decide))); have n4_ := Aside0.mk ((by rw [hw]; exact below_set (HB.out) GB59.out : Below w.heap.size w w67)); clear HO_6; clear HO_7; clear BK0; clear BK224; clear HB; have HO_6 := n0_; have HO_7 := n1_; have BK0 := n2_; have BK224 := n3_; have HB := n4_; clear n0_ n1_ n2_ n3_ n4_; clear hg hw hp_))
               (try simp only [← hl6_3])
               go_roundg kj21
               case measure => have := HK1.out; have := HK2.out; have := HK3.out; have := HJ21.out; omega
               case rel => exact ⟨(y233), (y234), (true), (wrap64 (x10_3 + 1)), rs_, rs_, H', ⟨by have := HK1.out; have := HK2.out; have := HK3.out; have := HJ21.out; omega⟩, ⟨by (try simp only [hl6_2]); (try simp only [hl6_3]); (with_reducible repeat (first | apply Kd.R_alloc | apply Kd.R_drewN | apply Kd.R_drew)); exact Kd.R_mono HO_6.out (fun _ hk => hk.2)⟩, ⟨by (try simp only [hl6_2]); (try simp only [hl6_3]); (with_reducible repeat (first | apply Kd.R_alloc | apply Kd.R_drewN | apply Kd.R_drew)); exact HO_7.out⟩, ⟨by (try simp only [hl6_2]); (try simp only [hl6_3]); (with_reducible repeat (first | refine blk_drewN ?_ _ | refine blk_drew ?_ | refine blk_alloc ?_ _)); exact BK0.out⟩, ⟨bl1_ HB.out GE224.out⟩⟩
              ·rw [if_neg c56] at H
               have c56b0 : decide (0 ≤ (rd x6_3 ((rd_T52 l0_1 x10_3).f0))) = false := decide_eq_false c56
               clear c56
               have H' := Aside0.mk H
               clear H
               have hnb68 := NB224_0.out
               have hnc68 := NB0_224.out
               obtain ⟨hcz69_0, hcz69_1, hcz69_2, hfz69_0, hfz69_1, hfz69_2⟩ := cz3_ BK224.out
               have p230 : 0 ≤ (((rd_T52 l0_1 x10_3).f1) : Int) := od_
               have q230 : ((rd_T52 l0_1 x10_3).f1) < (x6_3.length : Int) := od_
               obtain ⟨ad230, e230, hx230_0⟩ := Kd.at_int (Kd.R_reads' HO_6.out).2.2 ((rd_T52 l0_1 x10_3).f1) p230 q230
               obtain rfl : (⟨go15, 0, none⟩ : Addr) = ad230 := (by injection e230)
               (try first | simp only [add_plain] at hx230_0 | simp only [add_at] at hx230_0 | simp only [Addr.add, Nat.zero_add] at hx230_0)
               replace p230 := eq_true p230
               replace q230 := eq_true q230
               have p231 : 0 ≤ (((rd_T52 l0_1 x10_3).f0) : Int) := od_
               have q231 : ((rd_T52 l0_1 x10_3).f0) < (x6_3.length : Int) := od_
               obtain ⟨ad231, e231, hx231_0⟩ := Kd.at_int (Kd.R_reads' HO_6.out).2.2 ((rd_T52 l0_1 x10_3).f0) p231 q231
               obtain rfl : (⟨go15, 0, none⟩ : Addr) = ad231 := (by injection e231)
               (try first | simp only [add_plain] at hx231_0 | simp only [add_at] at hx231_0 | simp only [Addr.add, Nat.zero_add] at hx231_0)
               replace p231 := eq_true p231
               replace q231 := eq_true q231
               go_wp2
               (try simp only [← hl6_3])
               go_roundg kj21
               case measure => have := HK1.out; have := HK2.out; have := HK3.out; have := HJ21.out; omega
               case rel => exact ⟨(x6_3), (x7_3), (x9_3), (wrap64 (x10_3 + 1)), rs_, rs_, H', ⟨by have := HK1.out; have := HK2.out; have := HK3.out; have := HJ21.out; omega⟩, ⟨by (try simp only [hl6_2]); (try simp only [hl6_3]); (with_reducible repeat (first | apply Kd.R_alloc | apply Kd.R_drewN | apply Kd.R_drew)); exact HO_6.out⟩, ⟨by (try simp only [hl6_2]); (try simp only [hl6_3]); (with_reducible repeat (first | apply Kd.R_alloc | apply Kd.R_drewN | apply Kd.R_drew)); exact HO_7.out⟩, ⟨by (try simp only [hl6_2]); (try simp only [hl6_3]); (with_reducible repeat (first | refine blk_drewN ?_ _ | refine blk_drew ?_ | refine blk_alloc ?_ _)); exact BK0.out⟩, ⟨bl1_ HB.out GE224.out⟩⟩
             ·rw [if_neg c53] at H
              have c53b0 := decide_eq_false c53
              clear c53
              have H' := Aside0.mk H
              clear H
              have hnb70 := NB224_0.out
              have hnc70 := NB0_224.out
              obtain ⟨hcz71_0, hcz71_1, hcz71_2, hfz71_0, hfz71_1, hfz71_2⟩ := cz3_ BK224.out
              have p230 : 0 ≤ (((rd_T52 l0_1 x10_3).f1) : Int) := od_
              have q230 : ((rd_T52 l0_1 x10_3).f1) < (x6_3.length : Int) := od_
              obtain ⟨ad230, e230, hx230_0⟩ := Kd.at_int (Kd.R_reads' HO_6.out).2.2 ((rd_T52 l0_1 x10_3).f1) p230 q230
              obtain rfl : (⟨go15, 0, none⟩ : Addr) = ad230 := (by injection e230)
              (try first | simp only [add_plain] at hx230_0 | simp only [add_at] at hx230_0 | simp only [Addr.add, Nat.zero_add] at hx230_0)
              replace p230 := eq_true p230
              replace q230 := eq_true q230
              go_wp2
              (try simp only [← hl6_3])
              go_roundg kj21
              case measure => have := HK1.out; have := HK2.out; have := HK3.out; have := HJ21.out; omega
              case rel => exact ⟨(x6_3), (x7_3), (x9_3), (wrap64 (x10_3 + 1)), rs_, rs_, H', ⟨by have := HK1.out; have := HK2.out; have := HK3.out; have := HJ21.out; omega⟩, ⟨by (try simp only [hl6_2]); (try simp only [hl6_3]); (with_reducible repeat (first | apply Kd.R_alloc | apply Kd.R_drewN | apply Kd.R_drew)); exact HO_6.out⟩, ⟨by (try simp only [hl6_2]); (try simp only [hl6_3]); (with_reducible repeat (first | apply Kd.R_alloc | apply Kd.R_drewN | apply Kd.R_drew)); exact HO_7.out⟩, ⟨by (try simp only [hl6_2]); (try simp only [hl6_3]); (with_reducible repeat (first | refine blk_drewN ?_ _ | refine blk_drew ?_ | refine blk_alloc ?_ _)); exact BK0.out⟩, ⟨bl1_ HB.out GE224.out⟩⟩
         ·rw [if_neg c20] at H
          have c20b0 := decide_eq_false c20
          clear c20
          have H' := Aside0.mk H
          clear H
          obtain ⟨hcz72_0, hcz72_1, hfz72_0, hfz72_1⟩ := cz2_ BK0.out
          go_wp2
          (try simp only [← hl6_2, ← hl6_3])
          go_roundg k3
          case measure => have := HK1.out; have := HK2.out; have := HK3.out; omega
          case rel => exact ⟨(x6_3), (x7_3), (x9_3), rs_, H', ⟨by have := HK1.out; have := HK2.out; have := HK3.out; omega⟩, ⟨by (try simp only [hl6_2]); (try simp only [hl6_3]); (with_reducible repeat (first | apply Kd.R_alloc | apply Kd.R_drewN | apply Kd.R_drew)); exact HO_6.out⟩, ⟨by (try simp only [hl6_2]); (try simp only [hl6_3]); (with_reducible repeat (first | apply Kd.R_alloc | apply Kd.R_drewN | apply Kd.R_drew)); exact HO_7.out⟩, ⟨by (try simp only [hl6_2]); (try simp only [hl6_3]); (with_reducible repeat (first | refine blk_drewN ?_ _ | refine blk_drew ?_ | refine blk_alloc ?_ _)); exact BK0.out⟩, ⟨bl0_ HB.out⟩⟩
      ·replace c19 := Bool.eq_false_iff.mpr c19
       subst c19
       have H1 : (some (x6_2, x7_2)) = some (r1, r2) := by rw [if_neg (show ¬ (false = true) by decide)] at H; exact H
       clear H
       have H := H1
       clear H1
       simp only [Option.some.injEq, Prod.mk.injEq] at H
       obtain ⟨rfl, rfl⟩ := H
       go_wp2
       go_ret2
       exact ⟨_, _, by first | rfl | (simp [errW_none, errW_some] <;> rfl) | (simp [*, errW_none, errW_some] <;> rfl), ra_ HO_6.out, ra_ HO_7.out, bl0_ HB.out⟩

/-! ### spec_l00Has: function 65 -/
def spec_l00Has.l0 : Nat → List Int → Int → Int → Option (Bool)
 | 0, _, _, _ => none
 | k + 1, x0, x1, x5 => if x5 < (x0.length : Int) then (if 0 ≤ x5 then (if (rd x0 x5) = x1 then (some true) else (spec_l00Has.l0 k x0 x1 (wrap64 (x5 + 1)))) else (none)) else (some false)
def spec_l00Has.f (k : Nat) (l0 : List Int) (a1 : Int) : Option (Bool) := spec_l00Has.l0 k l0 a1 0
theorem spec_l00Has.mono_l : ∀ k, (∀ y0 y1 y2, LeO (spec_l00Has.l0 k y0 y1 y2) (spec_l00Has.l0 (k + 1) y0 y1 y2))
 | 0 => fun _ _ _ r h => by simp [spec_l00Has.l0] at h
 | k + 1 => by
  have ih0 := spec_l00Has.mono_l k
  ·intro y0 y1 y2
   unfold spec_l00Has.l0
   repeat' first
   | (with_reducible exact ih0 _ _ _)
   | (with_reducible exact LeO.refl _)
   | (with_reducible exact LeO.none _)
   | (with_reducible refine LeO.ite ?_ ?_)
   | (with_reducible refine LeO.bind ?_ (fun _ => ?_))
theorem spec_l00Has.mono : ∀ a0 a1 k, LeO (spec_l00Has.f k a0 a1) (spec_l00Has.f (k + 1) a0 a1) := by
 intro a0 a1 k
 have ih0 := spec_l00Has.mono_l k
 unfold spec_l00Has.f
 repeat' first
   | (with_reducible exact ih0 _ _ _)
   | (with_reducible exact LeO.refl _)
   | (with_reducible exact LeO.none _)
   | (with_reducible refine LeO.ite ?_ ?_)
   | (with_reducible refine LeO.bind ?_ (fun _ => ?_))
set_option maxHeartbeats 8000000 in
set_option maxRecDepth 100000 in
theorem spec_l00Has.calls (k : Nat) (A0 : Option Addr) (c0 : Nat) (l0 : List Int) (a1 : Int) (r : Bool) (w : World) (hr0 : Kd.C (Kd.int .i64) w A0 l0.length l0) (hc0 : l0.length ≤ c0) (h : spec_l00Has.f k l0 a1 = some r) :
  Calls Tryd.prog 65 #[.slice A0 l0.length c0, .int .i64 a1] w fun e w' => e = .returned (.bool r) ∧ Drawn0 w w' := by
 have HR0 := Aside0.mk hr0
 have HC0 := Aside0.mk hc0
 clear hr0 hc0
 have H : (spec_l00Has.l0 k l0 a1 0) = some r := h
 clear h
 have H' := Aside0.mk H
 clear H
 go_enter Tryd.func65, Tryd.ntmps65
 go_wp2
 go_loopg [5] k (fun kq v5 w' => ∃ (x5_1 : Int), v5 = .int .i64 x5_1 ∧ Aside0 (spec_l00Has.l0 kq l0 a1 x5_1 = some r) ∧ Aside0 (kq ≤ k) ∧ Drawn0 w w')
 case atStart => exact ⟨(0), rs_, H', ⟨Nat.le_refl _⟩, by repeat (first | exact Drawn0.refl _ | apply Drawn0.step)⟩
 case round =>
  clear H'
  try clear p2
  obtain ⟨x5_1, rfl, HA, HK1, ⟨m1, rfl⟩⟩ := hrel
  cases gk with
  | zero => exact absurd HA.out (by simp [spec_l00Has.l0])
  | succ k1 =>
   have H := HA.out
   clear HA
   simp only [spec_l00Has.l0] at H
   by_cases c3 : x5_1 < (l0.length : Int)
   ·rw [if_pos c3] at H
    have c3b0 := decide_eq_true c3
    clear c3
    by_cases c4 : 0 ≤ x5_1
    rotate_left
    ·exact nope_ c4 H
    rw [if_pos c4] at H
    have c4b0 := decide_eq_true c4
    clear c4
    by_cases c5 : (rd l0 x5_1) = a1
    ·rw [if_pos c5] at H
     have c5b0 : ((rd l0 x5_1) == a1) = true := beq_iff_eq.mpr c5
     have c5b1 : ((rd l0 x5_1) != a1) = false := bne_eq_false_iff_eq.mpr c5
     clear c5
     obtain rfl := Option.some.inj H
     have p235 : 0 ≤ (x5_1 : Int) := od_
     have q235 : x5_1 < (l0.length : Int) := od_
     obtain ⟨ad235, e235, hx235_0⟩ := Kd.at_int HR0.out x5_1 p235 q235
     cases e235
     replace p235 := eq_true p235
     replace q235 := eq_true q235
     go_wp2
     go_ret
     exact ⟨by first | rfl | (simp; done) | (simp [*]; done), by repeat (first | exact Drawn0.refl _ | apply Drawn0.step)⟩
    ·rw [if_neg c5] at H
     have c5b0 : ((rd l0 x5_1) == a1) = false := beq_eq_false_iff_ne.mpr c5
     have c5b1 : ((rd l0 x5_1) != a1) = true := bne_iff_ne.mpr c5
     have H' := Aside0.mk H
     clear H
     have p235 : 0 ≤ (x5_1 : Int) := od_
     have q235 : x5_1 < (l0.length : Int) := od_
     obtain ⟨ad235, e235, hx235_0⟩ := Kd.at_int HR0.out x5_1 p235 q235
     cases e235
     replace p235 := eq_true p235
     replace q235 := eq_true q235
     go_wp2
     go_roundg k1
     case measure => have := HK1.out; omega
     case rel => exact ⟨(wrap64 (x5_1 + 1)), rs_, H', ⟨by have := HK1.out; omega⟩, by repeat (first | exact Drawn0.refl _ | apply Drawn0.step)⟩
   ·rw [if_neg c3] at H
    have c3b0 := decide_eq_false c3
    clear c3
    obtain rfl := Option.some.inj H
    go_wp2
    go_ret
    exact ⟨by first | rfl | (simp; done) | (simp [*]; done), by repeat (first | exact Drawn0.refl _ | apply Drawn0.step)⟩

end Go.Proofs.YtddaiabilhjcpaaDoor.A
