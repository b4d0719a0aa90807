/- For functions of the translation: a Lean function each, and that the call of the Go function comes to its answer. Written by this session's own program (myprint.py, over the kit's printer). -/
import Derived.Test.YtmckbecegiegaaaAx0
import Derived.Test.YtmckbecegiegaaaAx13
--compacted
namespace Go.Proofs.Ytmckbecegiegaaa.A
open Go.RowKit Go.Proofs.YtmckbecegiegaaaW.PrintWords Go.Proofs.YtmckbecegiegaaaW.PrintLast Go.Proofs.YtmckbecegiegaaaW.PrintMore
attribute [local go_sem] max2_int min2_int max_two min_two max_three min_three max_four min_four   -- for this text's walks alone
set_option linter.unusedVariables false
set_option linter.unusedSimpArgs false

/-! ### spec_l30Search_next: function 53 -/
mutual
def spec_l30Search_next.l0 : Nat → Int → List (List Int) → Int → Int → List (S37) → Bool → Option (Bool × Int × (List (S37)) × Bool)
 | 0, _, _, _, _, _, _ => none
 | k + 1, x3, x1000, x1001, x1002, x1003, x1004 => if x3 ≤ x1001 then (spec_l30Search_next.l1 k x3 0 x1000 x1001 x1002 x1003 x1004) else (some (false, x1002, x1003, x1004))
def spec_l30Search_next.l1 : Nat → Int → Int → List (List Int) → Int → Int → List (S37) → Bool → Option (Bool × Int × (List (S37)) × Bool)
 | 0, _, _, _, _, _, _, _ => none
 | k + 1, x3, x4, x1000, x1001, x1002, x1003, x1004 => if x4 ≤ x1001 then (if x1002 = 0 then (some (false, x1002, x1003, true)) else ((spec_l30Search_fits.f k x1000 x1001 (wrap64 (x1002 - 1)) x1003 x1004 x3 x4).bind fun t353 => (if t353 = true then (if x1003.length < 8796093022208 then ((spec_l30Search_next.f k x1000 x1001 (wrap64 (x1002 - 1)) (x1003 ++ [(⟨x3, x4⟩ : S37)]) x1004).bind fun bt357 => (if bt357.1 = true then (some (true, bt357.2.1, bt357.2.2.1, bt357.2.2.2)) else (if 0 ≤ (wrap64 ((bt357.2.2.1.length : Int) - 1)) then (if (wrap64 ((bt357.2.2.1.length : Int) - 1)) ≤ (bt357.2.2.1.length : Int) then ((some (bt357.2.2.1.take ((wrap64 ((bt357.2.2.1.length : Int) - 1)) : Int).toNat : List (S37))).bind fun y363 => (if bt357.2.2.2 = true then (some (false, bt357.2.1, y363, bt357.2.2.2)) else (spec_l30Search_next.l1 k x3 (wrap64 (x4 + 1)) x1000 x1001 bt357.2.1 y363 bt357.2.2.2))) else (none)) else (none)))) else (none)) else (spec_l30Search_next.l1 k x3 (wrap64 (x4 + 1)) x1000 x1001 (wrap64 (x1002 - 1)) x1003 x1004)))) else (spec_l30Search_next.l0 k (wrap64 (x3 + 1)) x1000 x1001 x1002 x1003 x1004)
def spec_l30Search_next.f : Nat → List (List Int) → Int → Int → List (S37) → Bool → Option (Bool × Int × (List (S37)) × Bool)
 | 0, _, _, _, _, _ => none
 | k + 1, l0_0, a0_1, a0_2, l0_3, a0_4 => if (l0_3.length : Int) = (l0_0.length : Int) then (some (true, a0_2, l0_3, a0_4)) else (spec_l30Search_next.l0 k 0 l0_0 a0_1 a0_2 l0_3 a0_4)
end
theorem spec_l30Search_next.mono_l : ∀ k, (∀ y0 y1 y2 y3 y4, LeO (spec_l30Search_next.f k y0 y1 y2 y3 y4) (spec_l30Search_next.f (k + 1) y0 y1 y2 y3 y4)) ∧ (∀ y0 y1 y2 y3 y4 y5, LeO (spec_l30Search_next.l0 k y0 y1 y2 y3 y4 y5) (spec_l30Search_next.l0 (k + 1) y0 y1 y2 y3 y4 y5)) ∧ (∀ y0 y1 y2 y3 y4 y5 y6, LeO (spec_l30Search_next.l1 k y0 y1 y2 y3 y4 y5 y6) (spec_l30Search_next.l1 (k + 1) y0 y1 y2 y3 y4 y5 y6))
 | 0 => ⟨fun _ _ _ _ _ r h => by simp [spec_l30Search_next.f] at h, fun _ _ _ _ _ _ r h => by simp [spec_l30Search_next.l0] at h, fun _ _ _ _ _ _ _ r h => by simp [spec_l30Search_next.l1] at h⟩
 | k + 1 => by
  obtain ⟨ih0, ih1, ih2⟩ := spec_l30Search_next.mono_l k
  refine ⟨?_, ?_, ?_⟩
  ·intro y0 y1 y2 y3 y4
   unfold spec_l30Search_next.f
   repeat' first
   | (with_reducible exact ih0 _ _ _ _ _)
   | (with_reducible exact ih1 _ _ _ _ _ _)
   | (with_reducible exact ih2 _ _ _ _ _ _ _)
   | (with_reducible exact spec_l30Search_fits.mono _ _ _ _ _ _ _ _)
   | (with_reducible exact LeO.refl _)
   | (with_reducible exact LeO.none _)
   | (with_reducible refine LeO.ite ?_ ?_)
   | (with_reducible refine LeO.bind ?_ (fun _ => ?_))
   | exact spec_l30Search_fits.mono _ _ _ _ _ _ _ _
   | exact LeO.none _
   | refine LeO.ite ?_ ?_
   | refine LeO.bind ?_ (fun _ => ?_)
  ·intro y0 y1 y2 y3 y4 y5
   unfold spec_l30Search_next.l0
   repeat' first
   | (with_reducible exact ih0 _ _ _ _ _)
   | (with_reducible exact ih1 _ _ _ _ _ _)
   | (with_reducible exact ih2 _ _ _ _ _ _ _)
   | (with_reducible exact spec_l30Search_fits.mono _ _ _ _ _ _ _ _)
   | (with_reducible exact LeO.refl _)
   | (with_reducible exact LeO.none _)
   | (with_reducible refine LeO.ite ?_ ?_)
   | (with_reducible refine LeO.bind ?_ (fun _ => ?_))
   | exact spec_l30Search_fits.mono _ _ _ _ _ _ _ _
   | exact LeO.none _
   | refine LeO.ite ?_ ?_
   | refine LeO.bind ?_ (fun _ => ?_)
  ·intro y0 y1 y2 y3 y4 y5 y6
   unfold spec_l30Search_next.l1
   repeat' first
   | (with_reducible exact ih0 _ _ _ _ _)
   | (with_reducible exact ih1 _ _ _ _ _ _)
   | (with_reducible exact ih2 _ _ _ _ _ _ _)
   | (with_reducible exact spec_l30Search_fits.mono _ _ _ _ _ _ _ _)
   | (with_reducible exact LeO.refl _)
   | (with_reducible exact LeO.none _)
   | (with_reducible refine LeO.ite ?_ ?_)
   | (with_reducible refine LeO.bind ?_ (fun _ => ?_))
   | exact spec_l30Search_fits.mono _ _ _ _ _ _ _ _
   | exact LeO.none _
   | refine LeO.ite ?_ ?_
   | refine LeO.bind ?_ (fun _ => ?_)
theorem spec_l30Search_next.mono : ∀ a0 a1 a2 a3 a4 k, LeO (spec_l30Search_next.f k a0 a1 a2 a3 a4) (spec_l30Search_next.f (k + 1) a0 a1 a2 a3 a4) := by
 intro a0 a1 a2 a3 a4 k
 obtain ⟨ih0, ih1, ih2⟩ := spec_l30Search_next.mono_l k
 exact ih0 a0 a1 a2 a3 a4
def spec_l30Search_next.T1 : Bool × List (List Nat × List Nat) := (true, [([], []), ([0], [0]), ([1], [1]), ([2], [2]), ([3], [3]), ([], []), ([5], [5]), ([6], [6]), ([7], [7]), ([8], [8]), ([4, 9], [4, 9])])
def spec_l30Search_next.B1 : List Nat := [0, 1, 3, 7, 15, 0, 32, 96, 224, 480, 1023]
theorem spec_l30Search_next.tab1 : rtab .any (opsOf Try.f53 1) = spec_l30Search_next.T1 := by kernel_rfl
theorem spec_l30Search_next.bits1 : waitsOk spec_l30Search_next.T1.2 spec_l30Search_next.B1 = true := by kernel_rfl
def spec_l30Search_next.T15 : Bool × List (List Nat × List Nat) := (true, [([], []), ([], []), ([1], [1]), ([2], [2]), ([3], [3]), ([], []), ([5], [5]), ([4, 6], [4, 6]), ([0, 0, 1, 2, 3, 4, 5, 6, 7], [0]), ([8, 0, 1, 2, 3, 4, 5, 6, 7], [8]), ([9, 7, 7, 0, 1, 2, 3, 4, 5, 6, 7], [7, 9])])
def spec_l30Search_next.B15 : List Nat := [0, 0, 2, 6, 14, 0, 32, 126, 255, 511, 1023]
theorem spec_l30Search_next.tab15 : rtab .any (opsOf Try.f53 15) = spec_l30Search_next.T15 := by kernel_rfl
theorem spec_l30Search_next.bits15 : waitsOk spec_l30Search_next.T15.2 spec_l30Search_next.B15 = true := by kernel_rfl
def spec_l30Search_next.T18 : Bool × List (List Nat × List Nat) := (true, [([], []), ([], []), ([1], [1]), ([2], [2]), ([3], [3]), ([], []), ([5], [5]), ([6], [6]), ([7], [7]), ([8], [8]), ([9], [9]), ([4, 10], [4, 10]), ([0, 0, 1, 2, 3, 4, 5, 6, 7, 8, 9, 10, 11], [0]), ([12, 0, 1, 2, 3, 4, 5, 6, 7, 8, 9, 10, 11], [12]), ([13, 11, 0, 1, 2, 3, 4, 5, 6, 7, 8, 9, 10, 11], [11, 13])])
def spec_l30Search_next.B18 : List Nat := [0, 0, 2, 6, 14, 0, 32, 96, 224, 480, 992, 2046, 4095, 8191, 16383]
theorem spec_l30Search_next.tab18 : rtab .any (opsOf Try.f53 18) = spec_l30Search_next.T18 := by kernel_rfl
theorem spec_l30Search_next.bits18 : waitsOk spec_l30Search_next.T18.2 spec_l30Search_next.B18 = true := by kernel_rfl
set_option maxHeartbeats 8000000 in
set_option maxRecDepth 100000 in
theorem spec_l30Search_next.calls (k : Nat) : ∀ (g0 : Nat) (A0_0 : Option Addr) (c0_0 : Nat) (l0_0 : List (List Int)) (a0_1 : Int) (a0_2 : Int) (P0_3_ : Nat → Prop) (u9000_ : Value) (l0_3 : List (S37)) (a0_4 : Bool) (r1 : Bool) (r2 : Int) (r3 : List (S37)) (r4 : Bool) (w0 w : World) (hB : Below w0.heap.size w0 w) (hb0 : w.heap[g0]? = some (.cells #[.slice A0_0 l0_0.length c0_0, .int .i64 a0_1, .int .i64 a0_2, u9000_, .bool a0_4] 94 (0, 0))) (hG0 : w0.heap.size ≤ g0) (hr0_0 : ∀ W_, Kept w W_ (fun k_ => (P0_3_ k_) ∨ k_ = g0) → Kd.C (Kd.slice 2 (Kd.int .i64)) W_ A0_0 l0_0.length l0_0) (hc0_0 : l0_0.length ≤ c0_0) (ho0_3 : Kd.R k37 37 w w0.heap.size P0_3_ u9000_ l0_3) (h : spec_l30Search_next.f k l0_0 a0_1 a0_2 l0_3 a0_4 = some (r1, r2, r3, r4)),
  Calls Try.prog 53 #[.pointer (some ⟨g0, 0, none⟩)] w fun e w' => ∃ v2_ : Value, e = .returned (.bool r1) ∧ w'.heap[g0]? = some (.cells #[.slice A0_0 l0_0.length c0_0, .int .i64 a0_1, .int .i64 r2, v2_, .bool r4] 94 (0, 0)) ∧ Kd.R k37 37 w' w0.heap.size (fun k_ => (P0_3_ k_ ∨ w.heap.size ≤ k_)) v2_ r3 ∧ Below w0.heap.size w0 w' ∧ Kept w w' (fun k_ => (P0_3_ k_) ∨ k_ = g0) := by
 induction k using Nat.strongRecOn with
 | _ k ih =>
 intro g0 A0_0 c0_0 l0_0 a0_1 a0_2 P0_3_ u9000_ l0_3 a0_4 r1 r2 r3 r4 w0 w hB hb0 hG0 hr0_0 hc0_0 ho0_3 h
 cases k with
 | zero => exact absurd h (by simp [spec_l30Search_next.f])
 | succ k =>
 simp only [spec_l30Search_next.f] at h
 have hu37 := Try.underlying37
 have HR0_0 := Aside0.mk hr0_0
 have HC0_0 := Aside0.mk hc0_0
 clear hr0_0 hc0_0
 have HO0_3 := Aside0.mk (show Kd.R k37 37 w w0.heap.size (fun k_ => (P0_3_ k_ ∨ w.heap.size ≤ k_)) u9000_ l0_3 from Kd.R_mono ho0_3 (fun k_ hk => (.inl hk)))
 have BK0 := Aside0.mk hb0
 clear hb0
 have GE0 := Aside0.mk hG0
 clear hG0
 have HK := Aside0.mk (Kept.refl w (fun k_ => (P0_3_ k_) ∨ k_ = g0))
 have HW0 := Aside0.mk hB.size
 have HB := Aside0.mk hB
 clear hB
 have H : (if (l0_3.length : Int) = (l0_0.length : Int) then (some (true, a0_2, l0_3, a0_4)) else (spec_l30Search_next.l0 k 0 l0_0 a0_1 a0_2 l0_3 a0_4)) = some (r1, r2, r3, r4) := h
 clear h
 by_cases c2 : (l0_3.length : Int) = (l0_0.length : Int)
 ·rw [if_pos c2] at H
  have c2b0 : ((l0_3.length : Int) == (l0_0.length : Int)) = true := beq_iff_eq.mpr c2
  have c2b1 : ((l0_3.length : Int) != (l0_0.length : Int)) = false := bne_eq_false_iff_eq.mpr c2
  have c2b2 : (l0_3.length == l0_0.length) = true := by first | simpa using c2 | (simp at c2 ⊢; omega)
  clear c2
  simp only [Option.some.injEq, Prod.mk.injEq] at H
  obtain ⟨rfl, rfl, rfl, rfl⟩ := H
  go_enter Try.func53, Try.ntmps53
  try go_wp2
  have n0_ := Aside0.mk (Kd.R_drew HO0_3.out)
  have n1_ := Aside0.mk (blk_drew BK0.out)
  have n2_ := Aside0.mk (Kept.drew HK.out)
  have n3_ := Aside0.mk (below_drew1 HB.out)
  clear HO0_3
  clear BK0
  clear HK
  clear HB
  have HO0_3 := n0_
  have BK0 := n1_
  have HK := n2_
  have HB := n3_
  clear n0_ n1_ n2_ n3_
  obtain ⟨Ao4, co4, eo4⟩ := Kd.R_slice HO0_3.out
  (first | subst eo4 | (injection eo4 with f1_ f2_ f3_; have f4_ := f1_.symm; have f5_ := f3_.symm; clear f1_ f2_ f3_; subst f4_; subst f5_))
  refine start_ (n := 11) (S := fun w' => w'.cell? ⟨g0, 0, none⟩ = some (.slice A0_0 l0_0.length c0_0) ∧ w'.cell? ⟨g0, 1, none⟩ = some (.int .i64 a0_1) ∧ w'.cell? ⟨g0, 2, none⟩ = some (.int .i64 a0_2) ∧ w'.cell? ⟨g0, 3, none⟩ = some (.slice Ao4 l0_3.length co4) ∧ w'.cell? ⟨g0, 4, none⟩ = some (.bool a0_4)) (ds := []) (nb_ 11 0) (by kernel_rfl) rfl rfl ⟨(blk_cell BK0.out 0).trans rfl, (blk_cell BK0.out 1).trans rfl, (blk_cell BK0.out 2).trans rfl, (blk_cell BK0.out 3).trans rfl, (blk_cell BK0.out 4).trans rfl⟩ (fun hHeld => ?_); refine with_tabW spec_l30Search_next.tab1 spec_l30Search_next.bits1 (fun HT_ HW_ => ?_)
  generalize w.drew = w3 at HO0_3 BK0 HK HB hHeld ⊢
  refine puz_ 0 (some 6) (nb_ 11 1) rfl rfl (any_of HT_.out (by kernel_rfl)) ?_
  refine puz_ 1 (some 7) (nb_ 11 3) rfl rfl (any_of HT_.out (by kernel_rfl)) ?_
  refine puz_ 2 (some 8) (nb_ 11 7) rfl rfl (any_of HT_.out (by kernel_rfl)) ?_
  refine puz_ 5 (some 11) (nb_ 11 39) rfl rfl (any_of HT_.out (by kernel_rfl)) ?_
  refine puz_ 6 (some 12) (nb_ 11 103) rfl rfl (any_of HT_.out (by kernel_rfl)) ?_
  refine puz_ 7 (some 13) (nb_ 11 231) rfl rfl (any_of HT_.out (by kernel_rfl)) ?_
  refine tkz_ 3 (some 9) (nb_ 11 239) rfl rfl (take_ofW HT_.out HW_.out (by kernel_rfl)) hHeld ?_
  refine puz_ 4 (some 10) (nb_ 11 255) rfl rfl (any_of HT_.out (by kernel_rfl)) ?_
  refine tkz_ 8 (some 14) (nb_ 11 511) rfl rfl (take_ofW HT_.out HW_.out (by kernel_rfl)) hHeld ?_
  refine puz_ 9 (some 15) (nb_ 11 1023) rfl rfl (any_of HT_.out (by kernel_rfl)) ?_
  refine puz_ 10 (some 16) (nb_ 11 2047) rfl rfl (any_of HT_.out (by kernel_rfl)) ?_
  refine done_ (done_of HT_.out (by kernel_rfl)) ?_
  try go_wp2
  go_ret
  exact ⟨(.slice Ao4 l0_3.length co4), by first | rfl | (simp [errW_none, errW_some] <;> rfl) | (simp [*, errW_none, errW_some] <;> rfl), by (with_reducible repeat (first | refine blk_drewN ?_ _ | refine blk_drew ?_ | refine blk_alloc ?_ _)); exact BK0.out, ra_ HO0_3.out, by repeat (first | (with_reducible first | exact HB.out | apply below_alloc | apply pw_below_drewN | apply below_drew1 | refine below_set ?_ GE0.out) | exact HB.out), by repeat (first | (with_reducible first | exact HK.out | apply Kept.alloc | apply Kept.drewN | apply Kept.drew | refine Kept.setCell ?_ (.inl (.inr rfl)) _) | exact HK.out)⟩
 ·rw [if_neg c2] at H
  have c2b0 : ((l0_3.length : Int) == (l0_0.length : Int)) = false := beq_eq_false_iff_ne.mpr c2
  have c2b1 : ((l0_3.length : Int) != (l0_0.length : Int)) = true := bne_iff_ne.mpr c2
  have c2b2 : (l0_3.length == l0_0.length) = false := by first | simpa using c2 | (simp at c2 ⊢; omega)
  have H' := Aside0.mk H
  clear H
  go_enter Try.func53, Try.ntmps53
  try go_wp2
  have n0_ := Aside0.mk (Kd.R_drew HO0_3.out)
  have n1_ := Aside0.mk (blk_drew BK0.out)
  have n2_ := Aside0.mk (Kept.drew HK.out)
  have n3_ := Aside0.mk (below_drew1 HB.out)
  clear HO0_3
  clear BK0
  clear HK
  clear HB
  have HO0_3 := n0_
  have BK0 := n1_
  have HK := n2_
  have HB := n3_
  clear n0_ n1_ n2_ n3_
  obtain ⟨Ao6, co6, eo6⟩ := Kd.R_slice HO0_3.out
  (first | subst eo6 | (injection eo6 with f1_ f2_ f3_; have f4_ := f1_.symm; have f5_ := f3_.symm; clear f1_ f2_ f3_; subst f4_; subst f5_))
  refine start_ (n := 11) (S := fun w' => w'.cell? ⟨g0, 0, none⟩ = some (.slice A0_0 l0_0.length c0_0) ∧ w'.cell? ⟨g0, 1, none⟩ = some (.int .i64 a0_1) ∧ w'.cell? ⟨g0, 2, none⟩ = some (.int .i64 a0_2) ∧ w'.cell? ⟨g0, 3, none⟩ = some (.slice Ao6 l0_3.length co6) ∧ w'.cell? ⟨g0, 4, none⟩ = some (.bool a0_4)) (ds := []) (nb_ 11 0) (by kernel_rfl) rfl rfl ⟨(blk_cell BK0.out 0).trans rfl, (blk_cell BK0.out 1).trans rfl, (blk_cell BK0.out 2).trans rfl, (blk_cell BK0.out 3).trans rfl, (blk_cell BK0.out 4).trans rfl⟩ (fun hHeld => ?_); refine with_tabW spec_l30Search_next.tab1 spec_l30Search_next.bits1 (fun HT_ HW_ => ?_)
  generalize w.drew = w5 at HO0_3 BK0 HK HB hHeld ⊢
  refine puz_ 0 (some 6) (nb_ 11 1) rfl rfl (any_of HT_.out (by kernel_rfl)) ?_
  refine puz_ 1 (some 7) (nb_ 11 3) rfl rfl (any_of HT_.out (by kernel_rfl)) ?_
  refine puz_ 2 (some 8) (nb_ 11 7) rfl rfl (any_of HT_.out (by kernel_rfl)) ?_
  refine puz_ 5 (some 11) (nb_ 11 39) rfl rfl (any_of HT_.out (by kernel_rfl)) ?_
  refine puz_ 6 (some 12) (nb_ 11 103) rfl rfl (any_of HT_.out (by kernel_rfl)) ?_
  refine puz_ 7 (some 13) (nb_ 11 231) rfl rfl (any_of HT_.out (by kernel_rfl)) ?_
  refine tkz_ 3 (some 9) (nb_ 11 239) rfl rfl (take_ofW HT_.out HW_.out (by kernel_rfl)) hHeld ?_
  refine puz_ 4 (some 10) (nb_ 11 255) rfl rfl (any_of HT_.out (by kernel_rfl)) ?_
  refine tkz_ 8 (some 14) (nb_ 11 511) rfl rfl (take_ofW HT_.out HW_.out (by kernel_rfl)) hHeld ?_
  refine puz_ 9 (some 15) (nb_ 11 1023) rfl rfl (any_of HT_.out (by kernel_rfl)) ?_
  refine puz_ 10 (some 16) (nb_ 11 2047) rfl rfl (any_of HT_.out (by kernel_rfl)) ?_
  refine done_ (done_of HT_.out (by kernel_rfl)) ?_
  try go_wp2
  go_loopg [3] k (fun kq v3 w' => ∃ (x3_1 : Int) (x1002_1 : Int) (x1003_1 : List (S37)) (x1004_1 : Bool) (u1003 : Value), v3 = .int .i64 x3_1 ∧ Aside0 (spec_l30Search_next.l0 kq x3_1 l0_0 a0_1 x1002_1 x1003_1 x1004_1 = some (r1, r2, r3, r4)) ∧ Aside0 (kq ≤ k) ∧ Aside0 (Kd.R k37 37 w' w0.heap.size (fun k_ => (P0_3_ k_ ∨ w.heap.size ≤ k_)) u1003 x1003_1) ∧ Aside0 (w'.heap[g0]? = some (.cells #[(.slice A0_0 l0_0.length c0_0), .int .i64 a0_1, .int .i64 x1002_1, u1003, .bool x1004_1] 94 (0, 0))) ∧ Aside0 (Kept w w' (fun k_ => (P0_3_ k_) ∨ k_ = g0)) ∧ Aside0 (Below w0.heap.size w0 w'))
  case atStart => exact ⟨(0), (a0_2), (l0_3), (a0_4), (.slice Ao6 l0_3.length co6), rs_, H', ⟨Nat.le_refl _⟩, ⟨ra_ HO0_3.out⟩, ⟨bk_ BK0.out⟩, ⟨by repeat (first | (with_reducible first | exact HK.out | apply Kept.alloc | apply Kept.drewN | apply Kept.drew | refine Kept.setCell ?_ (.inl (.inr rfl)) _) | exact HK.out)⟩, ⟨bl1_ HB.out GE0.out⟩⟩
  case round =>
   clear H'
   try clear c2
   try clear c2b0
   try clear c2b1
   try clear c2b2
   try clear p2
   try clear c5
   obtain ⟨x3_1, x1002_1, x1003_1, x1004_1, u1003, rfl, HA, HK1, HO_1003, BK0, HK, HB⟩ := hrel
   cases gk with
   | zero => exact absurd HA.out (by simp [spec_l30Search_next.l0])
   | succ k1 =>
    have H := HA.out
    clear HA
    simp only [spec_l30Search_next.l0] at H
    by_cases c7 : x3_1 ≤ a0_1
    ·rw [if_pos c7] at H
     have c7b0 := decide_eq_true c7
     clear c7
     have H' := Aside0.mk H
     clear H
     obtain ⟨hcz8_0, hcz8_1, hcz8_2, hcz8_3, hcz8_4, hfz8_0, hfz8_1, hfz8_2, hfz8_3, hfz8_4⟩ := cz5_ BK0.out
     go_wp2
     go_loopg [4] k1 (fun kq v4 w' => ∃ (x4_2 : Int) (x1002_2 : Int) (x1003_2 : List (S37)) (x1004_2 : Bool) (u1003 : Value), v4 = .int .i64 x4_2 ∧ Aside0 (spec_l30Search_next.l1 kq x3_1 x4_2 l0_0 a0_1 x1002_2 x1003_2 x1004_2 = some (r1, r2, r3, r4)) ∧ Aside0 (kq ≤ k1) ∧ Aside0 (Kd.R k37 37 w' w0.heap.size (fun k_ => (P0_3_ k_ ∨ w.heap.size ≤ k_)) u1003 x1003_2) ∧ Aside0 (w'.heap[g0]? = some (.cells #[(.slice A0_0 l0_0.length c0_0), .int .i64 a0_1, .int .i64 x1002_2, u1003, .bool x1004_2] 94 (0, 0))) ∧ Aside0 (Kept w w' (fun k_ => (P0_3_ k_) ∨ k_ = g0)) ∧ Aside0 (Below w0.heap.size w0 w'))
     case atStart => exact ⟨(0), (x1002_1), (x1003_1), (x1004_1), (u1003), rs_, H', ⟨Nat.le_refl _⟩, ⟨ra_ HO_1003.out⟩, ⟨bk_ BK0.out⟩, ⟨by repeat (first | (with_reducible first | exact HK.out | apply Kept.alloc | apply Kept.drewN | apply Kept.drew | refine Kept.setCell ?_ (.inl (.inr rfl)) _) | exact HK.out)⟩, ⟨bl1_ HB.out GE0.out⟩⟩
     case round =>
      clear H'
      try clear c2
      try clear c2b0
      try clear c2b1
      try clear c2b2
      try clear p2
      try clear c5
      try clear c7
      try clear c7b0
      try clear hcz8_0
      try clear hcz8_1
      try clear hcz8_2
      try clear hcz8_3
      try clear hcz8_4
      try clear hfz8_0
      try clear hfz8_1
      try clear hfz8_2
      try clear hfz8_3
      try clear hfz8_4
      try clear p2
      obtain ⟨x4_2, x1002_2, x1003_2, x1004_2, u1003, rfl, HA, HK2, HO_1003, BK0, HK, HB⟩ := hrel
      cases gk with
      | zero => exact absurd HA.out (by simp [spec_l30Search_next.l1])
      | succ k2 =>
       have H := HA.out
       clear HA
       simp only [spec_l30Search_next.l1] at H
       by_cases c9 : x4_2 ≤ a0_1
       ·rw [if_pos c9] at H
        have c9b0 := decide_eq_true c9
        clear c9
        by_cases c10 : x1002_2 = 0
        ·rw [if_pos c10] at H
         have c10b0 : (x1002_2 == 0) = true := beq_iff_eq.mpr c10
         have c10b1 : (x1002_2 != 0) = false := bne_eq_false_iff_eq.mpr c10
         clear c10
         simp only [Option.some.injEq, Prod.mk.injEq] at H
         obtain ⟨rfl, rfl, rfl, rfl⟩ := H
         obtain ⟨hcz11_0, hcz11_1, hcz11_2, hcz11_3, hcz11_4, hfz11_0, hfz11_1, hfz11_2, hfz11_3, hfz11_4⟩ := cz5_ BK0.out
         go_wp2
         go_ret
         exact ⟨(u1003), by first | rfl | (simp [errW_none, errW_some] <;> rfl) | (simp [*, errW_none, errW_some] <;> rfl), by (with_reducible repeat (first | refine blk_drewN ?_ _ | refine blk_drew ?_ | refine blk_alloc ?_ _)); refine blk_put (cs := #[.slice A0_0 l0_0.length c0_0, .int .i64 a0_1, .int .i64 x1002_2, u1003, .bool x1004_2]) ?_ 4 _ rfl; (with_reducible repeat (first | refine blk_drewN ?_ _ | refine blk_drew ?_ | refine blk_alloc ?_ _)); exact BK0.out, by (with_reducible repeat (first | apply Kd.R_alloc | apply Kd.R_drewN | apply Kd.R_drew)); exact Kd.R_mono (Kd.R_far (p := ⟨g0, 4, none⟩) (Kd.R_types HO_1003.out BK0.out (by decide)) (fun _ hk => hk.2) (.bool true)) (fun _ hk => hk.1), by repeat (first | (with_reducible first | exact HB.out | apply below_alloc | apply pw_below_drewN | apply below_drew1 | refine below_set ?_ GE0.out) | exact HB.out), by repeat (first | (with_reducible first | exact HK.out | apply Kept.alloc | apply Kept.drewN | apply Kept.drew | refine Kept.setCell ?_ (.inl (.inr rfl)) _) | exact HK.out)⟩
        ·rw [if_neg c10] at H
         have c10b0 : (x1002_2 == 0) = false := beq_eq_false_iff_ne.mpr c10
         have c10b1 : (x1002_2 != 0) = true := bne_iff_ne.mpr c10
         replace H := Option.bind_eq_some_iff.mp H
         obtain ⟨t353, A120, H⟩ := H
         replace H : (if t353 = true then (if x1003_2.length < 8796093022208 then ((spec_l30Search_next.f k2 l0_0 a0_1 (wrap64 (x1002_2 - 1)) (x1003_2 ++ [(⟨x3_1, x4_2⟩ : S37)]) x1004_2).bind fun bt357 => (if bt357.1 = true then (some (true, bt357.2.1, bt357.2.2.1, bt357.2.2.2)) else (if 0 ≤ (wrap64 ((bt357.2.2.1.length : Int) - 1)) then (if (wrap64 ((bt357.2.2.1.length : Int) - 1)) ≤ (bt357.2.2.1.length : Int) then ((some (bt357.2.2.1.take ((wrap64 ((bt357.2.2.1.length : Int) - 1)) : Int).toNat : List (S37))).bind fun y363 => (if bt357.2.2.2 = true then (some (false, bt357.2.1, y363, bt357.2.2.2)) else (spec_l30Search_next.l1 k2 x3_1 (wrap64 (x4_2 + 1)) l0_0 a0_1 bt357.2.1 y363 bt357.2.2.2))) else (none)) else (none)))) else (none)) else (spec_l30Search_next.l1 k2 x3_1 (wrap64 (x4_2 + 1)) l0_0 a0_1 (wrap64 (x1002_2 - 1)) x1003_2 x1004_2)) = some (r1, r2, r3, r4) := H
         have A12 := Aside0.mk A120
         clear A120
         by_cases c13 : t353 = true
         ·subst c13
          have H1 : (if x1003_2.length < 8796093022208 then ((spec_l30Search_next.f k2 l0_0 a0_1 (wrap64 (x1002_2 - 1)) (x1003_2 ++ [(⟨x3_1, x4_2⟩ : S37)]) x1004_2).bind fun bt357 => (if bt357.1 = true then (some (true, bt357.2.1, bt357.2.2.1, bt357.2.2.2)) else (if 0 ≤ (wrap64 ((bt357.2.2.1.length : Int) - 1)) then (if (wrap64 ((bt357.2.2.1.length : Int) - 1)) ≤ (bt357.2.2.1.length : Int) then ((some (bt357.2.2.1.take ((wrap64 ((bt357.2.2.1.length : Int) - 1)) : Int).toNat : List (S37))).bind fun y363 => (if bt357.2.2.2 = true then (some (false, bt357.2.1, y363, bt357.2.2.2)) else (spec_l30Search_next.l1 k2 x3_1 (wrap64 (x4_2 + 1)) l0_0 a0_1 bt357.2.1 y363 bt357.2.2.2))) else (none)) else (none)))) else (none)) = some (r1, r2, r3, r4) := by rw [if_pos rfl] at H; exact H
          clear H
          have H := H1
          clear H1
          by_cases c14 : x1003_2.length < 8796093022208
          rotate_left
          ·exact nope_ c14 H
          rw [if_pos c14] at H
          have LMc14 := Aside0.mk c14
          clear c14
          obtain ⟨y354, hy354⟩ : ∃ y_ : List (S37), y_ = (x1003_2 ++ [(⟨x3_1, x4_2⟩ : S37)]) := ⟨_, rfl⟩
          replace H : ((spec_l30Search_next.f k2 l0_0 a0_1 (wrap64 (x1002_2 - 1)) y354 x1004_2).bind fun bt357 => (if bt357.1 = true then (some (true, bt357.2.1, bt357.2.2.1, bt357.2.2.2)) else (if 0 ≤ (wrap64 ((bt357.2.2.1.length : Int) - 1)) then (if (wrap64 ((bt357.2.2.1.length : Int) - 1)) ≤ (bt357.2.2.1.length : Int) then ((some (bt357.2.2.1.take ((wrap64 ((bt357.2.2.1.length : Int) - 1)) : Int).toNat : List (S37))).bind fun y363 => (if bt357.2.2.2 = true then (some (false, bt357.2.1, y363, bt357.2.2.2)) else (spec_l30Search_next.l1 k2 x3_1 (wrap64 (x4_2 + 1)) l0_0 a0_1 bt357.2.1 y363 bt357.2.2.2))) else (none)) else (none)))) = some (r1, r2, r3, r4) := yh_ H hy354
          have Ny354 := Aside0.mk hy354
          clear hy354
          replace H := Option.bind_eq_some_iff.mp H
          obtain ⟨⟨t357, t358, t359, t362⟩, A150, H⟩ := H
          replace H : (if t357 = true then (some (true, t358, t359, t362)) else (if 0 ≤ (wrap64 ((t359.length : Int) - 1)) then (if (wrap64 ((t359.length : Int) - 1)) ≤ (t359.length : Int) then ((some (t359.take ((wrap64 ((t359.length : Int) - 1)) : Int).toNat : List (S37))).bind fun y363 => (if t362 = true then (some (false, t358, y363, t362)) else (spec_l30Search_next.l1 k2 x3_1 (wrap64 (x4_2 + 1)) l0_0 a0_1 t358 y363 t362))) else (none)) else (none))) = some (r1, r2, r3, r4) := H
          have A15 := Aside0.mk A150
          clear A150
          by_cases c16 : t357 = true
          ·subst c16
           have H1 : (some (true, t358, t359, t362)) = some (r1, r2, r3, r4) := by rw [if_pos rfl] at H; exact H
           clear H
           have H := H1
           clear H1
           simp only [Option.some.injEq, Prod.mk.injEq] at H
           obtain ⟨rfl, rfl, rfl, rfl⟩ := H
           obtain ⟨hcz17_0, hcz17_1, hcz17_2, hcz17_3, hcz17_4, hfz17_0, hfz17_1, hfz17_2, hfz17_3, hfz17_4⟩ := cz5_ BK0.out
           try go_wp2_with (first | ((with_reducible refine gate_dst (N := 5) rfl ?_); refine box_event ?hg (N := 5) ?hd (cs := #[.int .i64 0, .int .i64 0]) (t := 37) ?hr ?_; (case hd => rfl); (case hg => rfl); (case hr => first | (go_simp; done) | (go_simp; rfl)); intro gb352 hg w18 hbox hb; have n0_ := Aside0.mk (Kd.R_below (Kd.R_elderB (by (with_reducible repeat (first | apply Kd.R_alloc | apply Kd.R_drewN | apply Kd.R_drew)); exact (Kd.R_mono (Kd.R_far (p := ⟨g0, 2, none⟩) (Kd.R_types HO_1003.out BK0.out (by decide)) (fun _ hk => hk.2) (.int .i64 (wrap64 (x1002_2 - 1)))) (fun _ h_ => h_.1))) gb352 (Nat.le_of_eq hg.symm)) hb); have n1_ := Aside0.mk (blk_below (g := g0) (o := .cells #[.slice A0_0 l0_0.length c0_0, .int .i64 a0_1, .int .i64 (wrap64 (x1002_2 - 1)), u1003, .bool x1004_2] 94 (0, 0)) (by (with_reducible repeat (first | refine blk_drewN ?_ _ | refine blk_drew ?_ | refine blk_alloc ?_ _)); refine blk_put (cs := #[.slice A0_0 l0_0.length c0_0, .int .i64 a0_1, .int .i64 x1002_2, u1003, .bool x1004_2]) ?_ 2 _ rfl; (with_reducible repeat (first | refine blk_drewN ?_ _ | refine blk_drew ?_ | refine blk_alloc ?_ _)); exact BK0.out) hb); have n2_ := Aside0.mk (Kept.below (w := w) (S := (fun k_ => (P0_3_ k_) ∨ k_ = g0)) (by repeat (first | (with_reducible first | exact HK.out | apply Kept.alloc | apply Kept.drewN | apply Kept.drew | refine Kept.setCell ?_ (.inl (.inr rfl)) _) | exact HK.out)) hb); have n3_ := Aside0.mk (below_step (bl1_ HB.out GE0.out) hb); have n4_ := Aside0.mk (hbox); have n5_ := Aside0.mk ((by rw [hg]; exact (show Kept w _ (fun k_ => (P0_3_ k_) ∨ k_ = g0) from by repeat (first | (with_reducible first | exact HK.out | apply Kept.alloc | apply Kept.drewN | apply Kept.drew | refine Kept.setCell ?_ (.inl (.inr rfl)) _) | exact HK.out)).1 : w.heap.size ≤ gb352)); have n6_ := Aside0.mk ((by rw [hg]; exact (below_size (bl1_ HB.out GE0.out)) : w0.heap.size ≤ gb352)); have n7_ := Aside0.mk ((by rw [hg]; exact Nat.ne_of_lt (blk_lt (g := g0) (o := .cells #[.slice A0_0 l0_0.length c0_0, .int .i64 a0_1, .int .i64 (wrap64 (x1002_2 - 1)), u1003, .bool x1004_2] 94 (0, 0)) (by (with_reducible repeat (first | refine blk_drewN ?_ _ | refine blk_drew ?_ | refine blk_alloc ?_ _)); refine blk_put (cs := #[.slice A0_0 l0_0.length c0_0, .int .i64 a0_1, .int .i64 x1002_2, u1003, .bool x1004_2]) ?_ 2 _ rfl; (with_reducible repeat (first | refine blk_drewN ?_ _ | refine blk_drew ?_ | refine blk_alloc ?_ _)); exact BK0.out)) : g0 ≠ gb352)); have n8_ := Aside0.mk ((by rw [hg]; exact Nat.ne_of_gt (blk_lt (g := g0) (o := .cells #[.slice A0_0 l0_0.length c0_0, .int .i64 a0_1, .int .i64 (wrap64 (x1002_2 - 1)), u1003, .bool x1004_2] 94 (0, 0)) (by (with_reducible repeat (first | refine blk_drewN ?_ _ | refine blk_drew ?_ | refine blk_alloc ?_ _)); refine blk_put (cs := #[.slice A0_0 l0_0.length c0_0, .int .i64 a0_1, .int .i64 x1002_2, u1003, .bool x1004_2]) ?_ 2 _ rfl; (with_reducible repeat (first | refine blk_drewN ?_ _ | refine blk_drew ?_ | refine blk_alloc ?_ _)); exact BK0.out)) : gb352 ≠ g0)); clear HO_1003; clear BK0; clear HK; clear HB; have HO_1003 := n0_; have BK0 := n1_; have HK := n2_; have HB := n3_; have BK352 := n4_; have GW352 := n5_; have GE352 := n6_; have NB0_352 := n7_; have NB352_0 := n8_; clear n0_ n1_ n2_ n3_ n4_ n5_ n6_ n7_ n8_; clear hb hbox hg; have hnb19 := NB352_0.out; have hnc19 := NB0_352.out; obtain ⟨hcz20_0, hcz20_1, hfz20_0, hfz20_1⟩ := cz2_ BK352.out; obtain ⟨Ao21, co21, eo21⟩ := Kd.R_slice HO_1003.out; subst eo21) | ((with_reducible refine gate_callee (f := 61) rfl ?_); refine goesL_ (some 53) rfl rfl Try.func61 (by kernel_rfl) rfl #[.pointer (some ⟨g0, 0, none⟩), .agg #[.int .i64 x3_1, .int .i64 x4_2]] rfl mp_ ?_; (with_reducible refine (spec_l30Search_fits.calls k2 g0 A0_0 c0_0 l0_0 a0_1 (wrap64 (x1002_2 - 1)) Ao21 co21 x1003_2 x1004_2 x3_1 x4_2 true _ ?side1 ?side2 ?side3 ?side4 ?side5 A12.out).mono ?_); (case side1 => exact by (with_reducible repeat (first | refine blk_drewN ?_ _ | refine blk_drew ?_ | refine blk_alloc ?_ _)); refine blk_far ?_ NB0_352.out _; (with_reducible repeat (first | refine blk_drewN ?_ _ | refine blk_drew ?_ | refine blk_alloc ?_ _)); refine blk_far ?_ NB0_352.out _; (with_reducible repeat (first | refine blk_drewN ?_ _ | refine blk_drew ?_ | refine blk_alloc ?_ _)); exact BK0.out); (case side2 => exact Kd.C_kept_now HR0_0.out (by repeat (first | (with_reducible first | exact HK.out | apply Kept.alloc | apply Kept.drewN | apply Kept.drew | refine Kept.setCell ?_ (.inl (.inr rfl)) _ | refine Kept.setCell ?_ (.inr GW352.out) _) | exact HK.out))); (case side3 => exact HC0_0.out); (case side4 => refine (Kd.R_reads' (e := 37) (base := w0.heap.size) (ok := fun k_ => ((P0_3_ k_ ∨ w.heap.size ≤ k_) ∧ k_ ≠ gb352)) (n := x1003_2.length) (c := co21) ?_).2.2; exact (by (with_reducible repeat (first | apply Kd.R_alloc | apply Kd.R_drewN | apply Kd.R_drew)); exact (Kd.R_mono (Kd.R_far (p := ⟨gb352, 1, none⟩) (Kd.R_far (p := ⟨gb352, 0, none⟩) (Kd.R_mono HO_1003.out (fun k_ hk => (⟨hk, hk.2⟩ : _ ∧ k_ ≠ gb352))) (fun _ hk => hk.2) (.int .i64 x3_1)) (fun _ hk => hk.2) (.int .i64 x4_2)) (fun _ h_ => h_.1)))); (case side5 => exact (Kd.R_reads' HO_1003.out).2.1); rintro e w22 ⟨rfl, hb⟩; refine ⟨_, rfl, ?_⟩; have n0_ := Aside0.mk (Kd.R_below (by (with_reducible repeat (first | apply Kd.R_alloc | apply Kd.R_drewN | apply Kd.R_drew)); exact (Kd.R_mono (Kd.R_far (p := ⟨gb352, 1, none⟩) (Kd.R_far (p := ⟨gb352, 0, none⟩) (Kd.R_mono HO_1003.out (fun k_ hk => (⟨hk, hk.2⟩ : _ ∧ k_ ≠ gb352))) (fun _ hk => hk.2) (.int .i64 x3_1)) (fun _ hk => hk.2) (.int .i64 x4_2)) (fun _ h_ => h_.1))) hb); have n1_ := Aside0.mk (blk_below (g := g0) (o := .cells #[.slice A0_0 l0_0.length c0_0, .int .i64 a0_1, .int .i64 (wrap64 (x1002_2 - 1)), .slice Ao21 x1003_2.length co21, .bool x1004_2] 94 (0, 0)) (by (with_reducible repeat (first | refine blk_drewN ?_ _ | refine blk_drew ?_ | refine blk_alloc ?_ _)); refine blk_far ?_ NB0_352.out _; (with_reducible repeat (first | refine blk_drewN ?_ _ | refine blk_drew ?_ | refine blk_alloc ?_ _)); refine blk_far ?_ NB0_352.out _; (with_reducible repeat (first | refine blk_drewN ?_ _ | refine blk_drew ?_ | refine blk_alloc ?_ _)); exact BK0.out) hb); have n2_ := Aside0.mk (blk_below (g := gb352) (o := .cells #[.int .i64 x3_1, .int .i64 x4_2] 37 (0, 0)) (by (with_reducible repeat (first | refine blk_drewN ?_ _ | refine blk_drew ?_ | refine blk_alloc ?_ _)); refine blk_put (cs := #[.int .i64 x3_1, .int .i64 0]) ?_ 1 _ rfl; (with_reducible repeat (first | refine blk_drewN ?_ _ | refine blk_drew ?_ | refine blk_alloc ?_ _)); refine blk_put (cs := #[.int .i64 0, .int .i64 0]) ?_ 0 _ rfl; (with_reducible repeat (first | refine blk_drewN ?_ _ | refine blk_drew ?_ | refine blk_alloc ?_ _)); exact BK352.out) hb); have n3_ := Aside0.mk (Kept.below (w := w) (S := (fun k_ => (P0_3_ k_) ∨ k_ = g0)) (by repeat (first | (with_reducible first | exact HK.out | apply Kept.alloc | apply Kept.drewN | apply Kept.drew | refine Kept.setCell ?_ (.inl (.inr rfl)) _ | refine Kept.setCell ?_ (.inr GW352.out) _) | exact HK.out)) hb); have n4_ := Aside0.mk (below_step (bl2_ HB.out GE0.out GE352.out) hb); clear HO_1003; clear BK0; clear BK352; clear HK; clear HB; have HO_1003 := n0_; have BK0 := n1_; have BK352 := n2_; have HK := n3_; have HB := n4_; clear n0_ n1_ n2_ n3_ n4_; (try clear hb); (try clear hb2); (try clear hk); (try clear hi)))
           have n0_ := Aside0.mk (Kd.R_drew HO_1003.out)
           have n1_ := Aside0.mk (blk_drew BK0.out)
           have n2_ := Aside0.mk (blk_drew BK352.out)
           have n3_ := Aside0.mk (Kept.drew HK.out)
           have n4_ := Aside0.mk (below_drew1 HB.out)
           clear HO_1003
           clear BK0
           clear BK352
           clear HK
           clear HB
           have HO_1003 := n0_
           have BK0 := n1_
           have BK352 := n2_
           have HK := n3_
           have HB := n4_
           clear n0_ n1_ n2_ n3_ n4_
           refine start_ (n := 11) (S := fun w' => w'.cell? ⟨g0, 0, none⟩ = some (.slice A0_0 l0_0.length c0_0) ∧ w'.cell? ⟨g0, 1, none⟩ = some (.int .i64 a0_1) ∧ w'.cell? ⟨g0, 2, none⟩ = some (.int .i64 (wrap64 (x1002_2 - 1))) ∧ w'.cell? ⟨g0, 3, none⟩ = some (.slice Ao21 x1003_2.length co21) ∧ w'.cell? ⟨g0, 4, none⟩ = some (.bool x1004_2) ∧ w'.cell? ⟨gb352, 0, none⟩ = some (.int .i64 x3_1) ∧ w'.cell? ⟨gb352, 1, none⟩ = some (.int .i64 x4_2)) (ds := [10]) (nb_ 11 0) (by kernel_rfl) rfl rfl ⟨(blk_cell BK0.out 0).trans rfl, (blk_cell BK0.out 1).trans rfl, (blk_cell BK0.out 2).trans rfl, (blk_cell BK0.out 3).trans rfl, (blk_cell BK0.out 4).trans rfl, (blk_cell BK352.out 0).trans rfl, (blk_cell BK352.out 1).trans rfl⟩ (fun hHeld => ?_); refine with_tabW spec_l30Search_next.tab15 spec_l30Search_next.bits15 (fun HT_ HW_ => ?_)
           generalize w22.drew = w23 at HO_1003 BK0 BK352 HK HB hHeld ⊢
           refine puz_ 0 (some 55) (nb_ 11 1) rfl rfl (any_of HT_.out (by kernel_rfl)) ?_
           refine puz_ 1 (some 56) (nb_ 11 3) rfl rfl (any_of HT_.out (by kernel_rfl)) ?_
           refine puz_ 2 (some 57) (nb_ 11 7) rfl rfl (any_of HT_.out (by kernel_rfl)) ?_
           refine puz_ 3 (some 58) (nb_ 11 15) rfl rfl (any_of HT_.out (by kernel_rfl)) ?_
           refine tkz_ 4 (some 59) (nb_ 11 31) rfl rfl (take_ofW HT_.out HW_.out (by kernel_rfl)) hHeld ?_
           refine tkz_ 5 (some 60) (nb_ 11 63) rfl rfl (take_ofW HT_.out HW_.out (by kernel_rfl)) hHeld ?_
           refine one_ (i := 6) (N := some 61) (nb_ 11 127) rfl rfl (one_of HT_.out (by kernel_rfl)) (by decide) (fun K hK => ?_)
           refine value_ (w1 := ?_) (v := ?_) (by rfl) rfl ?_ ?_
           rotate_left 2
           ·go_simp
            constructor
            ·rfl
            ·rfl
           refine hK.out _ _ ⟨(blk_cell (blk_alloc BK0.out _) 0).trans rfl, (blk_cell (blk_alloc BK0.out _) 1).trans rfl, (blk_cell (blk_alloc BK0.out _) 2).trans rfl, (blk_cell (blk_alloc BK0.out _) 3).trans rfl, (blk_cell (blk_alloc BK0.out _) 4).trans rfl, (blk_cell (blk_alloc BK352.out _) 0).trans rfl, (blk_cell (blk_alloc BK352.out _) 1).trans rfl⟩ (fun hHeld => ?_)
           clear hK K
           refine norm_ (a' := ?_) ?_ ?_
           rotate_left
           ·show Act.put _ (some 61) _ = _
            simp only [Act.put, List.setIfInBounds_toArray, List.set_cons_zero, List.set_cons_succ, i64_w, i32_w]
            rfl
           refine one_ (i := 7) (N := some 62) (nb_ 11 255) rfl rfl (one_of HT_.out (by kernel_rfl)) (by decide) (fun K hK => ?_)
           refine Kd.R_append_step k37 (w0 := w0) w0.heap.size (by rfl) (.tmp 59) (.tmp 61) 29 37 (.agg #[(.int .i64 0), (.int .i64 0)]) 16 rfl Try.underlying29 info37 rfl (by decide) (by omega) (.slice Ao21 x1003_2.length co21) x1003_2 (⟨x3_1, x4_2⟩ : S37) [.int .i64 x3_1, .int .i64 x4_2] (fun k_ => (P0_3_ k_ ∨ w.heap.size ≤ k_) ∧ k_ ≠ gb352) (fun _ => False) rfl rfl ?aP (fun _ hk => hk.elim) ?aF ?aO ?aB ?aS ?aL ?_
           (case aP => exact k37_mkM _ _ _ (⟨x3_1, x4_2⟩ : S37))
           (case aB => exact (bl2_ HB.out GE0.out GE352.out))
           (case aF => exact (fun k_ hk => ⟨(.inr (Nat.le_trans (by first | exact HK.out.1 | exact (show Kept w _ (fun k_ => (P0_3_ k_) ∨ k_ = g0) from by repeat (first | (with_reducible first | exact HK.out | apply Kept.alloc | apply Kept.drewN | apply Kept.drew | refine Kept.setCell ?_ (.inl (.inr rfl)) _ | refine Kept.setCell ?_ (.inr GW352.out) _) | exact HK.out)).1) hk)), Kd.freshB (g := gb352) (o := .cells #[.int .i64 x3_1, .int .i64 x4_2] 37 (0, 0)) (bk_ BK352.out) k_ hk⟩))
           (case aO => exact (ra_ HO_1003.out))
           (case aS => exact (below_size (bl2_ HB.out GE0.out GE352.out)))
           (case aL => have := LMc14.out; omega)
           intro v355 w24 ho hb hg hat
           rw [← Ny354.out] at ho
           have n0_ := Aside0.mk (blk_grown (g := g0) (o := .cells #[.slice A0_0 l0_0.length c0_0, .int .i64 a0_1, .int .i64 (wrap64 (x1002_2 - 1)), .slice Ao21 x1003_2.length co21, .bool x1004_2] 94 (0, 0)) (bk_ BK0.out) hg (Kd.R_ne HO_1003.out BK0.out (by decide)))
           have n1_ := Aside0.mk (blk_grown (g := gb352) (o := .cells #[.int .i64 x3_1, .int .i64 x4_2] 37 (0, 0)) (bk_ BK352.out) hg (Kd.R_away HO_1003.out (fun _ hk => hk.2)))
           have n2_ := Aside0.mk (hb)
           have n3_ := Aside0.mk (Kept.of_grown (w := w) (S := (fun k_ => (P0_3_ k_) ∨ k_ = g0)) hg (by repeat (first | (with_reducible first | exact HK.out | apply Kept.alloc | apply Kept.drewN | apply Kept.drew | refine Kept.setCell ?_ (.inl (.inr rfl)) _ | refine Kept.setCell ?_ (.inr GW352.out) _) | exact HK.out)) (fun k_ e_ => Or.imp_left Or.inl ((HO_1003.out.1 k_ e_).1)))
           have n4_ := Aside0.mk (ho)
           clear BK0
           clear BK352
           clear HB
           clear HK
           clear HO_1003
           have BK0 := n0_
           have BK352 := n1_
           have HB := n2_
           have HK := n3_
           have HO356 := n4_
           clear n0_ n1_ n2_ n3_ n4_
           clear ho hb hg hat
           obtain ⟨Ao25, co25, eo25⟩ := Kd.R_slice HO356.out
           (first | subst eo25 | (injection eo25 with f1_ f2_ f3_; have f4_ := f1_.symm; have f5_ := f3_.symm; clear f1_ f2_ f3_; subst f4_; subst f5_))
           refine hK.out _ _ ⟨(blk_cell BK0.out 0).trans rfl, (blk_cell BK0.out 1).trans rfl, (blk_cell BK0.out 2).trans rfl, (blk_cell BK0.out 3).trans rfl, (blk_cell BK0.out 4).trans rfl, (blk_cell BK352.out 0).trans rfl, (blk_cell BK352.out 1).trans rfl⟩ (fun hHeld => ?_)
           clear hK K
           refine norm_ (a' := ?_) ?_ ?_
           rotate_left
           ·show Act.put _ (some 62) _ = _
            simp only [Act.put, List.setIfInBounds_toArray, List.set_cons_zero, List.set_cons_succ, i64_w, i32_w]
            rfl
           refine puz_ 8 (some 63) (nb_ 11 511) rfl rfl (any_of HT_.out (by kernel_rfl)) ?_
           refine puz_ 9 (some 64) (nb_ 11 1023) rfl rfl (any_of HT_.out (by kernel_rfl)) ?_
           refine last_ (i := 10) (N := none) (nb_ 11 2047) rfl rfl (one_of HT_.out (by kernel_rfl)) (by decide) (fun K hK => ?_)
           have hs26 : w24.cell? ⟨g0, 3, none⟩ = some (.slice Ao21 x1003_2.length co21) := (blk_cell BK0.out 3).trans rfl
           have hfs26 := blk_frozen BK0.out 3
           have hns26_1 := NB352_0.out
           have hms26_1 := NB0_352.out
           refine skip_ (w1 := ?_) (by rfl) rfl ?_ ?_
           rotate_left
           ·go_simp
            rfl
           refine hK.out _ _ ?_
           clear hK K
           refine done_ (done_of HT_.out (by kernel_rfl)) ?_
           have n0_ : Aside0 (Kd.R k37 37 (w24.setCell ⟨g0, 3, none⟩ (.slice Ao25 y354.length co25)) w0.heap.size (fun k_ => (P0_3_ k_ ∨ w.heap.size ≤ k_) ∧ k_ ≠ gb352) (.slice Ao25 y354.length co25) y354) := ⟨by (with_reducible repeat (first | apply Kd.R_alloc | apply Kd.R_drewN | apply Kd.R_drew)); exact Kd.R_mono (Kd.R_far (p := ⟨g0, 3, none⟩) (Kd.R_types HO356.out BK0.out (by decide)) (fun _ hk => hk.2) (.slice Ao25 y354.length co25)) (fun _ hk => ⟨hk.1.1, hk.1.2⟩)⟩
           have n1_ : Aside0 ((w24.setCell ⟨g0, 3, none⟩ (.slice Ao25 y354.length co25)).heap[g0]? = some (.cells #[.slice A0_0 l0_0.length c0_0, .int .i64 a0_1, .int .i64 (wrap64 (x1002_2 - 1)), .slice Ao25 y354.length co25, .bool x1004_2] 94 (0, 0))) := ⟨by (with_reducible repeat (first | refine blk_drewN ?_ _ | refine blk_drew ?_ | refine blk_alloc ?_ _)); refine blk_put (cs := #[.slice A0_0 l0_0.length c0_0, .int .i64 a0_1, .int .i64 (wrap64 (x1002_2 - 1)), .slice Ao21 x1003_2.length co21, .bool x1004_2]) ?_ 3 _ rfl; (with_reducible repeat (first | refine blk_drewN ?_ _ | refine blk_drew ?_ | refine blk_alloc ?_ _)); exact BK0.out⟩
           have n2_ : Aside0 ((w24.setCell ⟨g0, 3, none⟩ (.slice Ao25 y354.length co25)).heap[gb352]? = some (.cells #[.int .i64 x3_1, .int .i64 x4_2] 37 (0, 0))) := ⟨by (with_reducible repeat (first | refine blk_drewN ?_ _ | refine blk_drew ?_ | refine blk_alloc ?_ _)); refine blk_far ?_ NB352_0.out _; (with_reducible repeat (first | refine blk_drewN ?_ _ | refine blk_drew ?_ | refine blk_alloc ?_ _)); exact BK352.out⟩
           have n3_ : Aside0 (Kept w (w24.setCell ⟨g0, 3, none⟩ (.slice Ao25 y354.length co25)) (fun k_ => (P0_3_ k_) ∨ k_ = g0)) := ⟨by repeat (first | (with_reducible first | exact HK.out | apply Kept.alloc | apply Kept.drewN | apply Kept.drew | refine Kept.setCell ?_ (.inl (.inr rfl)) _ | refine Kept.setCell ?_ (.inr GW352.out) _) | exact HK.out)⟩
           have n4_ : Aside0 (Below w0.heap.size w0 (w24.setCell ⟨g0, 3, none⟩ (.slice Ao25 y354.length co25))) := ⟨bl2_ HB.out GE0.out GE352.out⟩
           (try clear HO356)
           (try clear BK0)
           (try clear BK352)
           (try clear HK)
           (try clear HB)
           generalize (w24.setCell ⟨g0, 3, none⟩ (.slice Ao25 y354.length co25)) = w27 at n0_ n1_ n2_ n3_ n4_ ⊢
           have HO356 := n0_
           have BK0 := n1_
           have BK352 := n2_
           have HK := n3_
           have HB := n4_
           clear n0_ n1_ n2_ n3_ n4_
           try go_wp2_with (first | ((with_reducible refine gate_callee (f := 53) rfl ?_); refine goesL_ (some 66) rfl rfl Try.func53 (by kernel_rfl) rfl #[.pointer (some ⟨g0, 0, none⟩)] rfl mp_ ?_; (with_reducible refine (ih k2 (by have := HK1.out; have := HK2.out; omega) g0 A0_0 c0_0 l0_0 a0_1 (wrap64 (x1002_2 - 1)) (fun k_ => some k_ = (.slice Ao25 y354.length co25 : Value).ownBlock) (.slice Ao25 y354.length co25) y354 x1004_2 true t358 t359 t362 w0 _ ?side1 ?side2 ?side3 ?side4 ?side5 ?side6 A15.out).mono ?_); (case side1 => repeat (first | (with_reducible first | exact HB.out | apply below_alloc | apply pw_below_drewN | apply below_drew1 | refine below_set ?_ GE0.out | refine below_set ?_ GE352.out) | exact HB.out)); (case side2 => exact by (with_reducible repeat (first | refine blk_drewN ?_ _ | refine blk_drew ?_ | refine blk_alloc ?_ _)); exact BK0.out); (case side3 => exact GE0.out); (case side4 => exact Kd.C_kept_call HR0_0.out (by repeat (first | (with_reducible first | exact HK.out | apply Kept.alloc | apply Kept.drewN | apply Kept.drew | refine Kept.setCell ?_ (.inl (.inr rfl)) _ | refine Kept.setCell ?_ (.inr GW352.out) _) | exact HK.out)) (fun k_ hs_ => Or.elim hs_ (fun hs_ => (fun e_ => Or.imp_left Or.inl ((HO356.out.1 k_ e_.symm).1)) hs_) (fun e_ => .inl (.inr e_)))); (case side5 => exact HC0_0.out); (case side6 => exact Kd.R_tight rfl HO356.out); rintro e w28 ⟨v360, rfl, hbx, ho0, hb, hkp⟩; refine ⟨_, rfl, ?_⟩; have n0_ := Aside0.mk (hbx); have n1_ := Aside0.mk (blk_kept (bk_ BK352.out) hkp (fun hs_ => Or.elim hs_ (fun hs_ => (fun e_ => (Kd.R_away HO356.out (fun _ hk => hk.2)) e_) hs_) (fun e_ => NB352_0.out e_))); have n2_ := Aside0.mk (Kd.R_mono (ok' := fun k_ => (P0_3_ k_ ∨ w.heap.size ≤ k_) ∧ k_ ≠ gb352) ho0 (fun k_ hk_ => ⟨Or.elim hk_ (fun hs_ => (HO356.out.1 k_ (hs_).symm).1) (fun hn_ => (.inr (Nat.le_trans (by first | exact HK.out.1 | exact (show Kept w _ (fun k_ => (P0_3_ k_) ∨ k_ = g0) from by repeat (first | (with_reducible first | exact HK.out | apply Kept.alloc | apply Kept.drewN | apply Kept.drew | refine Kept.setCell ?_ (.inl (.inr rfl)) _ | refine Kept.setCell ?_ (.inr GW352.out) _) | exact HK.out)).1) hn_))), Or.elim hk_ (fun hs_ => fun e_ => (Kd.R_away HO356.out (fun _ hk => hk.2)) (by rw [← e_]; exact hs_)) (fun hn_ => (Kd.freshB (g := gb352) (o := .cells #[.int .i64 x3_1, .int .i64 x4_2] 37 (0, 0)) (bk_ BK352.out) k_ hn_))⟩)); have n3_ := Aside0.mk (Kept.then_ (w := w) (S := (fun k_ => (P0_3_ k_) ∨ k_ = g0)) (by repeat (first | (with_reducible first | exact HK.out | apply Kept.alloc | apply Kept.drewN | apply Kept.drew | refine Kept.setCell ?_ (.inl (.inr rfl)) _ | refine Kept.setCell ?_ (.inr GW352.out) _) | exact HK.out)) hkp (fun k_ hs_ => Or.elim hs_ (fun hs_ => (fun e_ => Or.imp_left Or.inl ((HO356.out.1 k_ e_.symm).1)) hs_) (fun e_ => .inl (.inr e_)))); have n4_ := Aside0.mk (hb); clear BK0; clear BK352; clear HK; clear HB; clear HO356; have BK0 := n0_; have BK352 := n1_; have HO361 := n2_; have HK := n3_; have HB := n4_; clear n0_ n1_ n2_ n3_ n4_; (try clear hb); (try clear hkp); (try clear ho0)))
           go_ret
           exact ⟨(v360), by first | rfl | (simp [errW_none, errW_some] <;> rfl) | (simp [*, errW_none, errW_some] <;> rfl), by (with_reducible repeat (first | refine blk_drewN ?_ _ | refine blk_drew ?_ | refine blk_alloc ?_ _)); exact BK0.out, by (with_reducible repeat (first | apply Kd.R_alloc | apply Kd.R_drewN | apply Kd.R_drew)); exact Kd.R_mono HO361.out (fun _ hk => hk.1), by repeat (first | (with_reducible first | exact HB.out | apply below_alloc | apply pw_below_drewN | apply below_drew1 | refine below_set ?_ GE0.out | refine below_set ?_ GE352.out) | exact HB.out), by repeat (first | (with_reducible first | exact HK.out | apply Kept.alloc | apply Kept.drewN | apply Kept.drew | refine Kept.setCell ?_ (.inl (.inr rfl)) _ | refine Kept.setCell ?_ (.inr GW352.out) _) | exact HK.out)⟩
          ·replace c16 := Bool.eq_false_iff.mpr c16
           subst c16
           have H1 : (if 0 ≤ (wrap64 ((t359.length : Int) - 1)) then (if (wrap64 ((t359.length : Int) - 1)) ≤ (t359.length : Int) then ((some (t359.take ((wrap64 ((t359.length : Int) - 1)) : Int).toNat : List (S37))).bind fun y363 => (if t362 = true then (some (false, t358, y363, t362)) else (spec_l30Search_next.l1 k2 x3_1 (wrap64 (x4_2 + 1)) l0_0 a0_1 t358 y363 t362))) else (none)) else (none)) = some (r1, r2, r3, r4) := by rw [if_neg (show ¬ (false = true) by decide)] at H; exact H
           clear H
           have H := H1
           clear H1
           obtain ⟨ji29, hji29⟩ : ∃ j_ : Int, (wrap64 ((t359.length : Int) - 1)) = j_ := ⟨_, rfl⟩
           replace H : (if 0 ≤ (ji29) then (if (ji29) ≤ (t359.length : Int) then ((some (t359.take ((ji29) : Int).toNat : List (S37))).bind fun y363 => (if t362 = true then (some (false, t358, y363, t362)) else (spec_l30Search_next.l1 k2 x3_1 (wrap64 (x4_2 + 1)) l0_0 a0_1 t358 y363 t362))) else (none)) else (none)) = some (r1, r2, r3, r4) := by first | (rw [hji29] at H; exact H) | (simp only [hji29] at H ⊢; exact H)
           (try rw [hji29] at A12)
           (try rw [hji29] at A15)
           have hji29w : (IntKind.i64.wrap ((t359.length : Int) - 1)) = ji29 := (i64_w _).trans hji29
           by_cases c30 : 0 ≤ (ji29)
           rotate_left
           ·exact nope_ c30 H
           rw [if_pos c30] at H
           have c30b0 := eq_true c30
           have c30b1 := decide_eq_true c30
           clear c30
           by_cases c31 : (ji29) ≤ (t359.length : Int)
           rotate_left
           ·exact nope_ c31 H
           rw [if_pos c31] at H
           have c31b0 := eq_true c31
           have c31b1 := decide_eq_true c31
           clear c31
           obtain ⟨y363, hy363⟩ : ∃ y_ : List (S37), y_ = (t359.take ((ji29) : Int).toNat) := ⟨_, rfl⟩
           replace H : (if t362 = true then (some (false, t358, y363, t362)) else (spec_l30Search_next.l1 k2 x3_1 (wrap64 (x4_2 + 1)) l0_0 a0_1 t358 y363 t362)) = some (r1, r2, r3, r4) := yh_ H hy363
           have Ny363 := Aside0.mk hy363
           clear hy363
           by_cases c32 : t362 = true
           ·subst c32
            have H1 : (some (false, t358, y363, true)) = some (r1, r2, r3, r4) := by rw [if_pos rfl] at H; exact H
            clear H
            have H := H1
            clear H1
            simp only [Option.some.injEq, Prod.mk.injEq] at H
            obtain ⟨rfl, rfl, rfl, rfl⟩ := H
            obtain ⟨hcz33_0, hcz33_1, hcz33_2, hcz33_3, hcz33_4, hfz33_0, hfz33_1, hfz33_2, hfz33_3, hfz33_4⟩ := cz5_ BK0.out
            try go_wp2_with (first | ((with_reducible refine gate_dst (N := 5) rfl ?_); refine box_event ?hg (N := 5) ?hd (cs := #[.int .i64 0, .int .i64 0]) (t := 37) ?hr ?_; (case hd => rfl); (case hg => rfl); (case hr => first | (go_simp; done) | (go_simp; rfl)); intro gb352 hg w34 hbox hb; have n0_ := Aside0.mk (Kd.R_below (Kd.R_elderB (by (with_reducible repeat (first | apply Kd.R_alloc | apply Kd.R_drewN | apply Kd.R_drew)); exact (Kd.R_mono (Kd.R_far (p := ⟨g0, 2, none⟩) (Kd.R_types HO_1003.out BK0.out (by decide)) (fun _ hk => hk.2) (.int .i64 (wrap64 (x1002_2 - 1)))) (fun _ h_ => h_.1))) gb352 (Nat.le_of_eq hg.symm)) hb); have n1_ := Aside0.mk (blk_below (g := g0) (o := .cells #[.slice A0_0 l0_0.length c0_0, .int .i64 a0_1, .int .i64 (wrap64 (x1002_2 - 1)), u1003, .bool x1004_2] 94 (0, 0)) (by (with_reducible repeat (first | refine blk_drewN ?_ _ | refine blk_drew ?_ | refine blk_alloc ?_ _)); refine blk_put (cs := #[.slice A0_0 l0_0.length c0_0, .int .i64 a0_1, .int .i64 x1002_2, u1003, .bool x1004_2]) ?_ 2 _ rfl; (with_reducible repeat (first | refine blk_drewN ?_ _ | refine blk_drew ?_ | refine blk_alloc ?_ _)); exact BK0.out) hb); have n2_ := Aside0.mk (Kept.below (w := w) (S := (fun k_ => (P0_3_ k_) ∨ k_ = g0)) (by repeat (first | (with_reducible first | exact HK.out | apply Kept.alloc | apply Kept.drewN | apply Kept.drew | refine Kept.setCell ?_ (.inl (.inr rfl)) _) | exact HK.out)) hb); have n3_ := Aside0.mk (below_step (bl1_ HB.out GE0.out) hb); have n4_ := Aside0.mk (hbox); have n5_ := Aside0.mk ((by rw [hg]; exact (show Kept w _ (fun k_ => (P0_3_ k_) ∨ k_ = g0) from by repeat (first | (with_reducible first | exact HK.out | apply Kept.alloc | apply Kept.drewN | apply Kept.drew | refine Kept.setCell ?_ (.inl (.inr rfl)) _) | exact HK.out)).1 : w.heap.size ≤ gb352)); have n6_ := Aside0.mk ((by rw [hg]; exact (below_size (bl1_ HB.out GE0.out)) : w0.heap.size ≤ gb352)); have n7_ := Aside0.mk ((by rw [hg]; exact Nat.ne_of_lt (blk_lt (g := g0) (o := .cells #[.slice A0_0 l0_0.length c0_0, .int .i64 a0_1, .int .i64 (wrap64 (x1002_2 - 1)), u1003, .bool x1004_2] 94 (0, 0)) (by (with_reducible repeat (first | refine blk_drewN ?_ _ | refine blk_drew ?_ | refine blk_alloc ?_ _)); refine blk_put (cs := #[.slice A0_0 l0_0.length c0_0, .int .i64 a0_1, .int .i64 x1002_2, u1003, .bool x1004_2]) ?_ 2 _ rfl; (with_reducible repeat (first | refine blk_drewN ?_ _ | refine blk_drew ?_ | refine blk_alloc ?_ _)); exact BK0.out)) : g0 ≠ gb352)); have n8_ := Aside0.mk ((by rw [hg]; exact Nat.ne_of_gt (blk_lt (g := g0) (o := .cells #[.slice A0_0 l0_0.length c0_0, .int .i64 a0_1, .int .i64 (wrap64 (x1002_2 - 1)), u1003, .bool x1004_2] 94 (0, 0)) (by (with_reducible repeat (first | refine blk_drewN ?_ _ | refine blk_drew ?_ | refine blk_alloc ?_ _)); refine blk_put (cs := #[.slice A0_0 l0_0.length c0_0, .int .i64 a0_1, .int .i64 x1002_2, u1003, .bool x1004_2]) ?_ 2 _ rfl; (with_reducible repeat (first | refine blk_drewN ?_ _ | refine blk_drew ?_ | refine blk_alloc ?_ _)); exact BK0.out)) : gb352 ≠ g0)); clear HO_1003; clear BK0; clear HK; clear HB; have HO_1003 := n0_; have BK0 := n1_; have HK := n2_; have HB := n3_; have BK352 := n4_; have GW352 := n5_; have GE352 := n6_; have NB0_352 := n7_; have NB352_0 := n8_; clear n0_ n1_ n2_ n3_ n4_ n5_ n6_ n7_ n8_; clear hb hbox hg; have hnb35 := NB352_0.out; have hnc35 := NB0_352.out; obtain ⟨hcz36_0, hcz36_1, hfz36_0, hfz36_1⟩ := cz2_ BK352.out; obtain ⟨Ao37, co37, eo37⟩ := Kd.R_slice HO_1003.out; subst eo37) | ((with_reducible refine gate_callee (f := 61) rfl ?_); refine goesL_ (some 53) rfl rfl Try.func61 (by kernel_rfl) rfl #[.pointer (some ⟨g0, 0, none⟩), .agg #[.int .i64 x3_1, .int .i64 x4_2]] rfl mp_ ?_; (with_reducible refine (spec_l30Search_fits.calls k2 g0 A0_0 c0_0 l0_0 a0_1 (wrap64 (x1002_2 - 1)) Ao37 co37 x1003_2 x1004_2 x3_1 x4_2 true _ ?side1 ?side2 ?side3 ?side4 ?side5 A12.out).mono ?_); (case side1 => exact by (with_reducible repeat (first | refine blk_drewN ?_ _ | refine blk_drew ?_ | refine blk_alloc ?_ _)); refine blk_far ?_ NB0_352.out _; (with_reducible repeat (first | refine blk_drewN ?_ _ | refine blk_drew ?_ | refine blk_alloc ?_ _)); refine blk_far ?_ NB0_352.out _; (with_reducible repeat (first | refine blk_drewN ?_ _ | refine blk_drew ?_ | refine blk_alloc ?_ _)); exact BK0.out); (case side2 => exact Kd.C_kept_now HR0_0.out (by repeat (first | (with_reducible first | exact HK.out | apply Kept.alloc | apply Kept.drewN | apply Kept.drew | refine Kept.setCell ?_ (.inl (.inr rfl)) _ | refine Kept.setCell ?_ (.inr GW352.out) _) | exact HK.out))); (case side3 => exact HC0_0.out); (case side4 => refine (Kd.R_reads' (e := 37) (base := w0.heap.size) (ok := fun k_ => ((P0_3_ k_ ∨ w.heap.size ≤ k_) ∧ k_ ≠ gb352)) (n := x1003_2.length) (c := co37) ?_).2.2; exact (by (with_reducible repeat (first | apply Kd.R_alloc | apply Kd.R_drewN | apply Kd.R_drew)); exact (Kd.R_mono (Kd.R_far (p := ⟨gb352, 1, none⟩) (Kd.R_far (p := ⟨gb352, 0, none⟩) (Kd.R_mono HO_1003.out (fun k_ hk => (⟨hk, hk.2⟩ : _ ∧ k_ ≠ gb352))) (fun _ hk => hk.2) (.int .i64 x3_1)) (fun _ hk => hk.2) (.int .i64 x4_2)) (fun _ h_ => h_.1)))); (case side5 => exact (Kd.R_reads' HO_1003.out).2.1); rintro e w38 ⟨rfl, hb⟩; refine ⟨_, rfl, ?_⟩; have n0_ := Aside0.mk (Kd.R_below (by (with_reducible repeat (first | apply Kd.R_alloc | apply Kd.R_drewN | apply Kd.R_drew)); exact (Kd.R_mono (Kd.R_far (p := ⟨gb352, 1, none⟩) (Kd.R_far (p := ⟨gb352, 0, none⟩) (Kd.R_mono HO_1003.out (fun k_ hk => (⟨hk, hk.2⟩ : _ ∧ k_ ≠ gb352))) (fun _ hk => hk.2) (.int .i64 x3_1)) (fun _ hk => hk.2) (.int .i64 x4_2)) (fun _ h_ => h_.1))) hb); have n1_ := Aside0.mk (blk_below (g := g0) (o := .cells #[.slice A0_0 l0_0.length c0_0, .int .i64 a0_1, .int .i64 (wrap64 (x1002_2 - 1)), .slice Ao37 x1003_2.length co37, .bool x1004_2] 94 (0, 0)) (by (with_reducible repeat (first | refine blk_drewN ?_ _ | refine blk_drew ?_ | refine blk_alloc ?_ _)); refine blk_far ?_ NB0_352.out _; (with_reducible repeat (first | refine blk_drewN ?_ _ | refine blk_drew ?_ | refine blk_alloc ?_ _)); refine blk_far ?_ NB0_352.out _; (with_reducible repeat (first | refine blk_drewN ?_ _ | refine blk_drew ?_ | refine blk_alloc ?_ _)); exact BK0.out) hb); have n2_ := Aside0.mk (blk_below (g := gb352) (o := .cells #[.int .i64 x3_1, .int .i64 x4_2] 37 (0, 0)) (by (with_reducible repeat (first | refine blk_drewN ?_ _ | refine blk_drew ?_ | refine blk_alloc ?_ _)); refine blk_put (cs := #[.int .i64 x3_1, .int .i64 0]) ?_ 1 _ rfl; (with_reducible repeat (first | refine blk_drewN ?_ _ | refine blk_drew ?_ | refine blk_alloc ?_ _)); refine blk_put (cs := #[.int .i64 0, .int .i64 0]) ?_ 0 _ rfl; (with_reducible repeat (first | refine blk_drewN ?_ _ | refine blk_drew ?_ | refine blk_alloc ?_ _)); exact BK352.out) hb); have n3_ := Aside0.mk (Kept.below (w := w) (S := (fun k_ => (P0_3_ k_) ∨ k_ = g0)) (by repeat (first | (with_reducible first | exact HK.out | apply Kept.alloc | apply Kept.drewN | apply Kept.drew | refine Kept.setCell ?_ (.inl (.inr rfl)) _ | refine Kept.setCell ?_ (.inr GW352.out) _) | exact HK.out)) hb); have n4_ := Aside0.mk (below_step (bl2_ HB.out GE0.out GE352.out) hb); clear HO_1003; clear BK0; clear BK352; clear HK; clear HB; have HO_1003 := n0_; have BK0 := n1_; have BK352 := n2_; have HK := n3_; have HB := n4_; clear n0_ n1_ n2_ n3_ n4_; (try clear hb); (try clear hb2); (try clear hk); (try clear hi)))
            have n0_ := Aside0.mk (Kd.R_drew HO_1003.out)
            have n1_ := Aside0.mk (blk_drew BK0.out)
            have n2_ := Aside0.mk (blk_drew BK352.out)
            have n3_ := Aside0.mk (Kept.drew HK.out)
            have n4_ := Aside0.mk (below_drew1 HB.out)
            clear HO_1003
            clear BK0
            clear BK352
            clear HK
            clear HB
            have HO_1003 := n0_
            have BK0 := n1_
            have BK352 := n2_
            have HK := n3_
            have HB := n4_
            clear n0_ n1_ n2_ n3_ n4_
            refine start_ (n := 11) (S := fun w' => w'.cell? ⟨g0, 0, none⟩ = some (.slice A0_0 l0_0.length c0_0) ∧ w'.cell? ⟨g0, 1, none⟩ = some (.int .i64 a0_1) ∧ w'.cell? ⟨g0, 2, none⟩ = some (.int .i64 (wrap64 (x1002_2 - 1))) ∧ w'.cell? ⟨g0, 3, none⟩ = some (.slice Ao37 x1003_2.length co37) ∧ w'.cell? ⟨g0, 4, none⟩ = some (.bool x1004_2) ∧ w'.cell? ⟨gb352, 0, none⟩ = some (.int .i64 x3_1) ∧ w'.cell? ⟨gb352, 1, none⟩ = some (.int .i64 x4_2)) (ds := [10]) (nb_ 11 0) (by kernel_rfl) rfl rfl ⟨(blk_cell BK0.out 0).trans rfl, (blk_cell BK0.out 1).trans rfl, (blk_cell BK0.out 2).trans rfl, (blk_cell BK0.out 3).trans rfl, (blk_cell BK0.out 4).trans rfl, (blk_cell BK352.out 0).trans rfl, (blk_cell BK352.out 1).trans rfl⟩ (fun hHeld => ?_); refine with_tabW spec_l30Search_next.tab15 spec_l30Search_next.bits15 (fun HT_ HW_ => ?_)
            generalize w38.drew = w39 at HO_1003 BK0 BK352 HK HB hHeld ⊢
            refine puz_ 0 (some 55) (nb_ 11 1) rfl rfl (any_of HT_.out (by kernel_rfl)) ?_
            refine puz_ 1 (some 56) (nb_ 11 3) rfl rfl (any_of HT_.out (by kernel_rfl)) ?_
            refine puz_ 2 (some 57) (nb_ 11 7) rfl rfl (any_of HT_.out (by kernel_rfl)) ?_
            refine puz_ 3 (some 58) (nb_ 11 15) rfl rfl (any_of HT_.out (by kernel_rfl)) ?_
            refine tkz_ 4 (some 59) (nb_ 11 31) rfl rfl (take_ofW HT_.out HW_.out (by kernel_rfl)) hHeld ?_
            refine tkz_ 5 (some 60) (nb_ 11 63) rfl rfl (take_ofW HT_.out HW_.out (by kernel_rfl)) hHeld ?_
            refine one_ (i := 6) (N := some 61) (nb_ 11 127) rfl rfl (one_of HT_.out (by kernel_rfl)) (by decide) (fun K hK => ?_)
            refine value_ (w1 := ?_) (v := ?_) (by rfl) rfl ?_ ?_
            rotate_left 2
            ·go_simp
             constructor
             ·rfl
             ·rfl
            refine hK.out _ _ ⟨(blk_cell (blk_alloc BK0.out _) 0).trans rfl, (blk_cell (blk_alloc BK0.out _) 1).trans rfl, (blk_cell (blk_alloc BK0.out _) 2).trans rfl, (blk_cell (blk_alloc BK0.out _) 3).trans rfl, (blk_cell (blk_alloc BK0.out _) 4).trans rfl, (blk_cell (blk_alloc BK352.out _) 0).trans rfl, (blk_cell (blk_alloc BK352.out _) 1).trans rfl⟩ (fun hHeld => ?_)
            clear hK K
            refine norm_ (a' := ?_) ?_ ?_
            rotate_left
            ·show Act.put _ (some 61) _ = _
             simp only [Act.put, List.setIfInBounds_toArray, List.set_cons_zero, List.set_cons_succ, i64_w, i32_w]
             rfl
            refine one_ (i := 7) (N := some 62) (nb_ 11 255) rfl rfl (one_of HT_.out (by kernel_rfl)) (by decide) (fun K hK => ?_)
            refine Kd.R_append_step k37 (w0 := w0) w0.heap.size (by rfl) (.tmp 59) (.tmp 61) 29 37 (.agg #[(.int .i64 0), (.int .i64 0)]) 16 rfl Try.underlying29 info37 rfl (by decide) (by omega) (.slice Ao37 x1003_2.length co37) x1003_2 (⟨x3_1, x4_2⟩ : S37) [.int .i64 x3_1, .int .i64 x4_2] (fun k_ => (P0_3_ k_ ∨ w.heap.size ≤ k_) ∧ k_ ≠ gb352) (fun _ => False) rfl rfl ?aP (fun _ hk => hk.elim) ?aF ?aO ?aB ?aS ?aL ?_
            (case aP => exact k37_mkM _ _ _ (⟨x3_1, x4_2⟩ : S37))
            (case aB => exact (bl2_ HB.out GE0.out GE352.out))
            (case aF => exact (fun k_ hk => ⟨(.inr (Nat.le_trans (by first | exact HK.out.1 | exact (show Kept w _ (fun k_ => (P0_3_ k_) ∨ k_ = g0) from by repeat (first | (with_reducible first | exact HK.out | apply Kept.alloc | apply Kept.drewN | apply Kept.drew | refine Kept.setCell ?_ (.inl (.inr rfl)) _ | refine Kept.setCell ?_ (.inr GW352.out) _) | exact HK.out)).1) hk)), Kd.freshB (g := gb352) (o := .cells #[.int .i64 x3_1, .int .i64 x4_2] 37 (0, 0)) (bk_ BK352.out) k_ hk⟩))
            (case aO => exact (ra_ HO_1003.out))
            (case aS => exact (below_size (bl2_ HB.out GE0.out GE352.out)))
            (case aL => have := LMc14.out; omega)
            intro v355 w40 ho hb hg hat
            rw [← Ny354.out] at ho
            have n0_ := Aside0.mk (blk_grown (g := g0) (o := .cells #[.slice A0_0 l0_0.length c0_0, .int .i64 a0_1, .int .i64 (wrap64 (x1002_2 - 1)), .slice Ao37 x1003_2.length co37, .bool x1004_2] 94 (0, 0)) (bk_ BK0.out) hg (Kd.R_ne HO_1003.out BK0.out (by decide)))
            have n1_ := Aside0.mk (blk_grown (g := gb352) (o := .cells #[.int .i64 x3_1, .int .i64 x4_2] 37 (0, 0)) (bk_ BK352.out) hg (Kd.R_away HO_1003.out (fun _ hk => hk.2)))
            have n2_ := Aside0.mk (hb)
            have n3_ := Aside0.mk (Kept.of_grown (w := w) (S := (fun k_ => (P0_3_ k_) ∨ k_ = g0)) hg (by repeat (first | (with_reducible first | exact HK.out | apply Kept.alloc | apply Kept.drewN | apply Kept.drew | refine Kept.setCell ?_ (.inl (.inr rfl)) _ | refine Kept.setCell ?_ (.inr GW352.out) _) | exact HK.out)) (fun k_ e_ => Or.imp_left Or.inl ((HO_1003.out.1 k_ e_).1)))
            have n4_ := Aside0.mk (ho)
            clear BK0
            clear BK352
            clear HB
            clear HK
            clear HO_1003
            have BK0 := n0_
            have BK352 := n1_
            have HB := n2_
            have HK := n3_
            have HO356 := n4_
            clear n0_ n1_ n2_ n3_ n4_
            clear ho hb hg hat
            obtain ⟨Ao41, co41, eo41⟩ := Kd.R_slice HO356.out
            (first | subst eo41 | (injection eo41 with f1_ f2_ f3_; have f4_ := f1_.symm; have f5_ := f3_.symm; clear f1_ f2_ f3_; subst f4_; subst f5_))
            refine hK.out _ _ ⟨(blk_cell BK0.out 0).trans rfl, (blk_cell BK0.out 1).trans rfl, (blk_cell BK0.out 2).trans rfl, (blk_cell BK0.out 3).trans rfl, (blk_cell BK0.out 4).trans rfl, (blk_cell BK352.out 0).trans rfl, (blk_cell BK352.out 1).trans rfl⟩ (fun hHeld => ?_)
            clear hK K
            refine norm_ (a' := ?_) ?_ ?_
            rotate_left
            ·show Act.put _ (some 62) _ = _
             simp only [Act.put, List.setIfInBounds_toArray, List.set_cons_zero, List.set_cons_succ, i64_w, i32_w]
             rfl
            refine puz_ 8 (some 63) (nb_ 11 511) rfl rfl (any_of HT_.out (by kernel_rfl)) ?_
            refine puz_ 9 (some 64) (nb_ 11 1023) rfl rfl (any_of HT_.out (by kernel_rfl)) ?_
            refine last_ (i := 10) (N := none) (nb_ 11 2047) rfl rfl (one_of HT_.out (by kernel_rfl)) (by decide) (fun K hK => ?_)
            have hs42 : w40.cell? ⟨g0, 3, none⟩ = some (.slice Ao37 x1003_2.length co37) := (blk_cell BK0.out 3).trans rfl
            have hfs42 := blk_frozen BK0.out 3
            have hns42_1 := NB352_0.out
            have hms42_1 := NB0_352.out
            refine skip_ (w1 := ?_) (by rfl) rfl ?_ ?_
            rotate_left
            ·go_simp
             rfl
            refine hK.out _ _ ?_
            clear hK K
            refine done_ (done_of HT_.out (by kernel_rfl)) ?_
            have n0_ : Aside0 (Kd.R k37 37 (w40.setCell ⟨g0, 3, none⟩ (.slice Ao41 y354.length co41)) w0.heap.size (fun k_ => (P0_3_ k_ ∨ w.heap.size ≤ k_) ∧ k_ ≠ gb352) (.slice Ao41 y354.length co41) y354) := ⟨by (with_reducible repeat (first | apply Kd.R_alloc | apply Kd.R_drewN | apply Kd.R_drew)); exact Kd.R_mono (Kd.R_far (p := ⟨g0, 3, none⟩) (Kd.R_types HO356.out BK0.out (by decide)) (fun _ hk => hk.2) (.slice Ao41 y354.length co41)) (fun _ hk => ⟨hk.1.1, hk.1.2⟩)⟩
            have n1_ : Aside0 ((w40.setCell ⟨g0, 3, none⟩ (.slice Ao41 y354.length co41)).heap[g0]? = some (.cells #[.slice A0_0 l0_0.length c0_0, .int .i64 a0_1, .int .i64 (wrap64 (x1002_2 - 1)), .slice Ao41 y354.length co41, .bool x1004_2] 94 (0, 0))) := ⟨by (with_reducible repeat (first | refine blk_drewN ?_ _ | refine blk_drew ?_ | refine blk_alloc ?_ _)); refine blk_put (cs := #[.slice A0_0 l0_0.length c0_0, .int .i64 a0_1, .int .i64 (wrap64 (x1002_2 - 1)), .slice Ao37 x1003_2.length co37, .bool x1004_2]) ?_ 3 _ rfl; (with_reducible repeat (first | refine blk_drewN ?_ _ | refine blk_drew ?_ | refine blk_alloc ?_ _)); exact BK0.out⟩
            have n2_ : Aside0 ((w40.setCell ⟨g0, 3, none⟩ (.slice Ao41 y354.length co41)).heap[gb352]? = some (.cells #[.int .i64 x3_1, .int .i64 x4_2] 37 (0, 0))) := ⟨by (with_reducible repeat (first | refine blk_drewN ?_ _ | refine blk_drew ?_ | refine blk_alloc ?_ _)); refine blk_far ?_ NB352_0.out _; (with_reducible repeat (first | refine blk_drewN ?_ _ | refine blk_drew ?_ | refine blk_alloc ?_ _)); exact BK352.out⟩
            have n3_ : Aside0 (Kept w (w40.setCell ⟨g0, 3, none⟩ (.slice Ao41 y354.length co41)) (fun k_ => (P0_3_ k_) ∨ k_ = g0)) := ⟨by repeat (first | (with_reducible first | exact HK.out | apply Kept.alloc | apply Kept.drewN | apply Kept.drew | refine Kept.setCell ?_ (.inl (.inr rfl)) _ | refine Kept.setCell ?_ (.inr GW352.out) _) | exact HK.out)⟩
            have n4_ : Aside0 (Below w0.heap.size w0 (w40.setCell ⟨g0, 3, none⟩ (.slice Ao41 y354.length co41))) := ⟨bl2_ HB.out GE0.out GE352.out⟩
            (try clear HO356)
            (try clear BK0)
            (try clear BK352)
            (try clear HK)
            (try clear HB)
            generalize (w40.setCell ⟨g0, 3, none⟩ (.slice Ao41 y354.length co41)) = w43 at n0_ n1_ n2_ n3_ n4_ ⊢
            have HO356 := n0_
            have BK0 := n1_
            have BK352 := n2_
            have HK := n3_
            have HB := n4_
            clear n0_ n1_ n2_ n3_ n4_
            try go_wp2_with (first | ((with_reducible refine gate_callee (f := 53) rfl ?_); refine goesL_ (some 66) rfl rfl Try.func53 (by kernel_rfl) rfl #[.pointer (some ⟨g0, 0, none⟩)] rfl mp_ ?_; (with_reducible refine (ih k2 (by have := HK1.out; have := HK2.out; omega) g0 A0_0 c0_0 l0_0 a0_1 (wrap64 (x1002_2 - 1)) (fun k_ => some k_ = (.slice Ao41 y354.length co41 : Value).ownBlock) (.slice Ao41 y354.length co41) y354 x1004_2 false t358 t359 true w0 _ ?side1 ?side2 ?side3 ?side4 ?side5 ?side6 A15.out).mono ?_); (case side1 => repeat (first | (with_reducible first | exact HB.out | apply below_alloc | apply pw_below_drewN | apply below_drew1 | refine below_set ?_ GE0.out | refine below_set ?_ GE352.out) | exact HB.out)); (case side2 => exact by (with_reducible repeat (first | refine blk_drewN ?_ _ | refine blk_drew ?_ | refine blk_alloc ?_ _)); exact BK0.out); (case side3 => exact GE0.out); (case side4 => exact Kd.C_kept_call HR0_0.out (by repeat (first | (with_reducible first | exact HK.out | apply Kept.alloc | apply Kept.drewN | apply Kept.drew | refine Kept.setCell ?_ (.inl (.inr rfl)) _ | refine Kept.setCell ?_ (.inr GW352.out) _) | exact HK.out)) (fun k_ hs_ => Or.elim hs_ (fun hs_ => (fun e_ => Or.imp_left Or.inl ((HO356.out.1 k_ e_.symm).1)) hs_) (fun e_ => .inl (.inr e_)))); (case side5 => exact HC0_0.out); (case side6 => exact Kd.R_tight rfl HO356.out); rintro e w44 ⟨v360, rfl, hbx, ho0, hb, hkp⟩; refine ⟨_, rfl, ?_⟩; have n0_ := Aside0.mk (hbx); have n1_ := Aside0.mk (blk_kept (bk_ BK352.out) hkp (fun hs_ => Or.elim hs_ (fun hs_ => (fun e_ => (Kd.R_away HO356.out (fun _ hk => hk.2)) e_) hs_) (fun e_ => NB352_0.out e_))); have n2_ := Aside0.mk (Kd.R_mono (ok' := fun k_ => (P0_3_ k_ ∨ w.heap.size ≤ k_) ∧ k_ ≠ gb352) ho0 (fun k_ hk_ => ⟨Or.elim hk_ (fun hs_ => (HO356.out.1 k_ (hs_).symm).1) (fun hn_ => (.inr (Nat.le_trans (by first | exact HK.out.1 | exact (show Kept w _ (fun k_ => (P0_3_ k_) ∨ k_ = g0) from by repeat (first | (with_reducible first | exact HK.out | apply Kept.alloc | apply Kept.drewN | apply Kept.drew | refine Kept.setCell ?_ (.inl (.inr rfl)) _ | refine Kept.setCell ?_ (.inr GW352.out) _) | exact HK.out)).1) hn_))), Or.elim hk_ (fun hs_ => fun e_ => (Kd.R_away HO356.out (fun _ hk => hk.2)) (by rw [← e_]; exact hs_)) (fun hn_ => (Kd.freshB (g := gb352) (o := .cells #[.int .i64 x3_1, .int .i64 x4_2] 37 (0, 0)) (bk_ BK352.out) k_ hn_))⟩)); have n3_ := Aside0.mk (Kept.then_ (w := w) (S := (fun k_ => (P0_3_ k_) ∨ k_ = g0)) (by repeat (first | (with_reducible first | exact HK.out | apply Kept.alloc | apply Kept.drewN | apply Kept.drew | refine Kept.setCell ?_ (.inl (.inr rfl)) _ | refine Kept.setCell ?_ (.inr GW352.out) _) | exact HK.out)) hkp (fun k_ hs_ => Or.elim hs_ (fun hs_ => (fun e_ => Or.imp_left Or.inl ((HO356.out.1 k_ e_.symm).1)) hs_) (fun e_ => .inl (.inr e_)))); have n4_ := Aside0.mk (hb); clear BK0; clear BK352; clear HK; clear HB; clear HO356; have BK0 := n0_; have BK352 := n1_; have HO361 := n2_; have HK := n3_; have HB := n4_; clear n0_ n1_ n2_ n3_ n4_; (try clear hb); (try clear hkp); (try clear ho0)))
            have n0_ := Aside0.mk (Kd.R_drew HO361.out)
            have n1_ := Aside0.mk (blk_drew BK0.out)
            have n2_ := Aside0.mk (blk_drew BK352.out)
            have n3_ := Aside0.mk (Kept.drew HK.out)
            have n4_ := Aside0.mk (below_drew1 HB.out)
            clear HO361
            clear BK0
            clear BK352
            clear HK
            clear HB
            have HO361 := n0_
            have BK0 := n1_
            have BK352 := n2_
            have HK := n3_
            have HB := n4_
            clear n0_ n1_ n2_ n3_ n4_
            obtain ⟨Ao46, co46, eo46⟩ := Kd.R_slice HO361.out
            (first | subst eo46 | (injection eo46 with f1_ f2_ f3_; have f4_ := f1_.symm; have f5_ := f3_.symm; clear f1_ f2_ f3_; subst f4_; subst f5_))
            have q47 : ((ji29) : Int) ≤ ((t359.length : Int) : Int) := od_
            obtain ⟨i047, hi047, _, hsz47, _⟩ := info_parts info37
            have hcut47 := cut_to (P := Try.prog) 29 37 .i64 Try.underlying29 hi047 Ao46 t359.length co46 (ji29) (od_) q47 (Kd.R_reads' HO361.out).2.1
            have hr47 := Kd.R_take (m := ((ji29) : Int).toNat) HO361.out (by omega)
            have hy47 : y363.length = ((ji29) : Int).toNat := (by rw [Ny363.out, List.length_take]; omega)
            rw [← Ny363.out] at hr47
            rw [← hy47] at hr47 hcut47
            clear hy47 hi047 hsz47 HO361
            have HO365 := Aside0.mk hr47
            clear hr47
            replace q47 := eq_true q47
            refine start_ (n := 15) (S := fun w' => w'.cell? ⟨g0, 0, none⟩ = some (.slice A0_0 l0_0.length c0_0) ∧ w'.cell? ⟨g0, 1, none⟩ = some (.int .i64 a0_1) ∧ w'.cell? ⟨g0, 2, none⟩ = some (.int .i64 t358) ∧ w'.cell? ⟨g0, 3, none⟩ = some (.slice Ao46 t359.length co46) ∧ w'.cell? ⟨g0, 4, none⟩ = some (.bool true)) (ds := [14]) (nb_ 15 0) (by kernel_rfl) rfl rfl ⟨(blk_cell BK0.out 0).trans rfl, (blk_cell BK0.out 1).trans rfl, (blk_cell BK0.out 2).trans rfl, (blk_cell BK0.out 3).trans rfl, (blk_cell BK0.out 4).trans rfl⟩ (fun hHeld => ?_); refine with_tabW spec_l30Search_next.tab18 spec_l30Search_next.bits18 (fun HT_ HW_ => ?_)
            generalize w44.drew = w45 at BK0 BK352 HK HB HO365 hHeld ⊢
            refine puz_ 0 (some 67) (nb_ 15 1) rfl rfl (any_of HT_.out (by kernel_rfl)) ?_
            refine puz_ 1 (some 68) (nb_ 15 3) rfl rfl (any_of HT_.out (by kernel_rfl)) ?_
            refine puz_ 2 (some 69) (nb_ 15 7) rfl rfl (any_of HT_.out (by kernel_rfl)) ?_
            refine puz_ 3 (some 70) (nb_ 15 15) rfl rfl (any_of HT_.out (by kernel_rfl)) ?_
            refine puz_ 5 (some 72) (nb_ 15 47) rfl rfl (any_of HT_.out (by kernel_rfl)) ?_
            refine puz_ 6 (some 73) (nb_ 15 111) rfl rfl (any_of HT_.out (by kernel_rfl)) ?_
            refine puz_ 7 (some 74) (nb_ 15 239) rfl rfl (any_of HT_.out (by kernel_rfl)) ?_
            refine tkz_ 4 (some 71) (nb_ 15 255) rfl rfl (take_ofW HT_.out HW_.out (by kernel_rfl)) hHeld ?_
            refine tkz_ 8 (some 75) (nb_ 15 511) rfl rfl (take_ofW HT_.out HW_.out (by kernel_rfl)) hHeld ?_
            refine puz_ 9 (some 76) (nb_ 15 1023) rfl rfl (any_of HT_.out (by kernel_rfl)) ?_
            refine puz_ 10 (some 77) (nb_ 15 2047) rfl rfl (any_of HT_.out (by kernel_rfl)) ?_
            refine puz_ 11 (some 78) (nb_ 15 4095) rfl rfl (any_of HT_.out (by kernel_rfl)) ?_
            refine puz_ 12 (some 79) (nb_ 15 8191) rfl rfl (any_of HT_.out (by kernel_rfl)) ?_
            refine puz_ 13 (some 80) (nb_ 15 16383) rfl rfl (any_of HT_.out (by kernel_rfl)) ?_
            refine last_ (i := 14) (N := none) (nb_ 15 32767) rfl rfl (one_of HT_.out (by kernel_rfl)) (by decide) (fun K hK => ?_)
            have hs48 : w45.cell? ⟨g0, 3, none⟩ = some (.slice Ao46 t359.length co46) := (blk_cell BK0.out 3).trans rfl
            have hfs48 := blk_frozen BK0.out 3
            have hns48_1 := NB352_0.out
            have hms48_1 := NB0_352.out
            refine skip_ (w1 := ?_) (by rfl) rfl ?_ ?_
            rotate_left
            ·go_simp
             rfl
            refine hK.out _ _ ?_
            clear hK K
            refine done_ (done_of HT_.out (by kernel_rfl)) ?_
            obtain ⟨hcz49_0, hcz49_1, hcz49_2, hcz49_3, hcz49_4, hfz49_0, hfz49_1, hfz49_2, hfz49_3, hfz49_4⟩ := cz5_ BK0.out
            try go_wp2
            go_ret
            exact ⟨(.slice Ao46 y363.length co46), by first | rfl | (simp [errW_none, errW_some] <;> rfl) | (simp only [← hji29]; first | rfl | (simp [errW_none, errW_some] <;> rfl)) | (simp [*, errW_none, errW_some] <;> rfl), by (with_reducible repeat (first | refine blk_drewN ?_ _ | refine blk_drew ?_ | refine blk_alloc ?_ _)); refine blk_put (cs := #[.slice A0_0 l0_0.length c0_0, .int .i64 a0_1, .int .i64 t358, .slice Ao46 t359.length co46, .bool true]) ?_ 3 _ rfl; (with_reducible repeat (first | refine blk_drewN ?_ _ | refine blk_drew ?_ | refine blk_alloc ?_ _)); exact BK0.out, by (with_reducible repeat (first | apply Kd.R_alloc | apply Kd.R_drewN | apply Kd.R_drew)); exact Kd.R_mono (Kd.R_far (p := ⟨g0, 3, none⟩) (Kd.R_types HO365.out BK0.out (by decide)) (fun _ hk => hk.2) (.slice Ao46 y363.length co46)) (fun _ hk => hk.1.1), by repeat (first | (with_reducible first | exact HB.out | apply below_alloc | apply pw_below_drewN | apply below_drew1 | refine below_set ?_ GE0.out | refine below_set ?_ GE352.out) | exact HB.out), by repeat (first | (with_reducible first | exact HK.out | apply Kept.alloc | apply Kept.drewN | apply Kept.drew | refine Kept.setCell ?_ (.inl (.inr rfl)) _ | refine Kept.setCell ?_ (.inr GW352.out) _) | exact HK.out)⟩
           ·replace c32 := Bool.eq_false_iff.mpr c32
            subst c32
            have H1 : (spec_l30Search_next.l1 k2 x3_1 (wrap64 (x4_2 + 1)) l0_0 a0_1 t358 y363 false) = some (r1, r2, r3, r4) := by rw [if_neg (show ¬ (false = true) by decide)] at H; exact H
            clear H
            have H := H1
            clear H1
            have H' := Aside0.mk H
            clear H
            obtain ⟨hcz50_0, hcz50_1, hcz50_2, hcz50_3, hcz50_4, hfz50_0, hfz50_1, hfz50_2, hfz50_3, hfz50_4⟩ := cz5_ BK0.out
            try go_wp2_with (first | ((with_reducible refine gate_dst (N := 5) rfl ?_); refine box_event ?hg (N := 5) ?hd (cs := #[.int .i64 0, .int .i64 0]) (t := 37) ?hr ?_; (case hd => rfl); (case hg => rfl); (case hr => first | (go_simp; done) | (go_simp; rfl)); intro gb352 hg w51 hbox hb; have n0_ := Aside0.mk (Kd.R_below (Kd.R_elderB (by (with_reducible repeat (first | apply Kd.R_alloc | apply Kd.R_drewN | apply Kd.R_drew)); exact (Kd.R_mono (Kd.R_far (p := ⟨g0, 2, none⟩) (Kd.R_types HO_1003.out BK0.out (by decide)) (fun _ hk => hk.2) (.int .i64 (wrap64 (x1002_2 - 1)))) (fun _ h_ => h_.1))) gb352 (Nat.le_of_eq hg.symm)) hb); have n1_ := Aside0.mk (blk_below (g := g0) (o := .cells #[.slice A0_0 l0_0.length c0_0, .int .i64 a0_1, .int .i64 (wrap64 (x1002_2 - 1)), u1003, .bool x1004_2] 94 (0, 0)) (by (with_reducible repeat (first | refine blk_drewN ?_ _ | refine blk_drew ?_ | refine blk_alloc ?_ _)); refine blk_put (cs := #[.slice A0_0 l0_0.length c0_0, .int .i64 a0_1, .int .i64 x1002_2, u1003, .bool x1004_2]) ?_ 2 _ rfl; (with_reducible repeat (first | refine blk_drewN ?_ _ | refine blk_drew ?_ | refine blk_alloc ?_ _)); exact BK0.out) hb); have n2_ := Aside0.mk (Kept.below (w := w) (S := (fun k_ => (P0_3_ k_) ∨ k_ = g0)) (by repeat (first | (with_reducible first | exact HK.out | apply Kept.alloc | apply Kept.drewN | apply Kept.drew | refine Kept.setCell ?_ (.inl (.inr rfl)) _) | exact HK.out)) hb); have n3_ := Aside0.mk (below_step (bl1_ HB.out GE0.out) hb); have n4_ := Aside0.mk (hbox); have n5_ := Aside0.mk ((by rw [hg]; exact (show Kept w _ (fun k_ => (P0_3_ k_) ∨ k_ = g0) from by repeat (first | (with_reducible first | exact HK.out | apply Kept.alloc | apply Kept.drewN | apply Kept.drew | refine Kept.setCell ?_ (.inl (.inr rfl)) _) | exact HK.out)).1 : w.heap.size ≤ gb352)); have n6_ := Aside0.mk ((by rw [hg]; exact (below_size (bl1_ HB.out GE0.out)) : w0.heap.size ≤ gb352)); have n7_ := Aside0.mk ((by rw [hg]; exact Nat.ne_of_lt (blk_lt (g := g0) (o := .cells #[.slice A0_0 l0_0.length c0_0, .int .i64 a0_1, .int .i64 (wrap64 (x1002_2 - 1)), u1003, .bool x1004_2] 94 (0, 0)) (by (with_reducible repeat (first | refine blk_drewN ?_ _ | refine blk_drew ?_ | refine blk_alloc ?_ _)); refine blk_put (cs := #[.slice A0_0 l0_0.length c0_0, .int .i64 a0_1, .int .i64 x1002_2, u1003, .bool x1004_2]) ?_ 2 _ rfl; (with_reducible repeat (first | refine blk_drewN ?_ _ | refine blk_drew ?_ | refine blk_alloc ?_ _)); exact BK0.out)) : g0 ≠ gb352)); have n8_ := Aside0.mk ((by rw [hg]; exact Nat.ne_of_gt (blk_lt (g := g0) (o := .cells #[.slice A0_0 l0_0.length c0_0, .int .i64 a0_1, .int .i64 (wrap64 (x1002_2 - 1)), u1003, .bool x1004_2] 94 (0, 0)) (by (with_reducible repeat (first | refine blk_drewN ?_ _ | refine blk_drew ?_ | refine blk_alloc ?_ _)); refine blk_put (cs := #[.slice A0_0 l0_0.length c0_0, .int .i64 a0_1, .int .i64 x1002_2, u1003, .bool x1004_2]) ?_ 2 _ rfl; (with_reducible repeat (first | refine blk_drewN ?_ _ | refine blk_drew ?_ | refine blk_alloc ?_ _)); exact BK0.out)) : gb352 ≠ g0)); clear HO_1003; clear BK0; clear HK; clear HB; have HO_1003 := n0_; have BK0 := n1_; have HK := n2_; have HB := n3_; have BK352 := n4_; have GW352 := n5_; have GE352 := n6_; have NB0_352 := n7_; have NB352_0 := n8_; clear n0_ n1_ n2_ n3_ n4_ n5_ n6_ n7_ n8_; clear hb hbox hg; have hnb52 := NB352_0.out; have hnc52 := NB0_352.out; obtain ⟨hcz53_0, hcz53_1, hfz53_0, hfz53_1⟩ := cz2_ BK352.out; obtain ⟨Ao54, co54, eo54⟩ := Kd.R_slice HO_1003.out; subst eo54) | ((with_reducible refine gate_callee (f := 61) rfl ?_); refine goesL_ (some 53) rfl rfl Try.func61 (by kernel_rfl) rfl #[.pointer (some ⟨g0, 0, none⟩), .agg #[.int .i64 x3_1, .int .i64 x4_2]] rfl mp_ ?_; (with_reducible refine (spec_l30Search_fits.calls k2 g0 A0_0 c0_0 l0_0 a0_1 (wrap64 (x1002_2 - 1)) Ao54 co54 x1003_2 x1004_2 x3_1 x4_2 true _ ?side1 ?side2 ?side3 ?side4 ?side5 A12.out).mono ?_); (case side1 => exact by (with_reducible repeat (first | refine blk_drewN ?_ _ | refine blk_drew ?_ | refine blk_alloc ?_ _)); refine blk_far ?_ NB0_352.out _; (with_reducible repeat (first | refine blk_drewN ?_ _ | refine blk_drew ?_ | refine blk_alloc ?_ _)); refine blk_far ?_ NB0_352.out _; (with_reducible repeat (first | refine blk_drewN ?_ _ | refine blk_drew ?_ | refine blk_alloc ?_ _)); exact BK0.out); (case side2 => exact Kd.C_kept_now HR0_0.out (by repeat (first | (with_reducible first | exact HK.out | apply Kept.alloc | apply Kept.drewN | apply Kept.drew | refine Kept.setCell ?_ (.inl (.inr rfl)) _ | refine Kept.setCell ?_ (.inr GW352.out) _) | exact HK.out))); (case side3 => exact HC0_0.out); (case side4 => refine (Kd.R_reads' (e := 37) (base := w0.heap.size) (ok := fun k_ => ((P0_3_ k_ ∨ w.heap.size ≤ k_) ∧ k_ ≠ gb352)) (n := x1003_2.length) (c := co54) ?_).2.2; exact (by (with_reducible repeat (first | apply Kd.R_alloc | apply Kd.R_drewN | apply Kd.R_drew)); exact (Kd.R_mono (Kd.R_far (p := ⟨gb352, 1, none⟩) (Kd.R_far (p := ⟨gb352, 0, none⟩) (Kd.R_mono HO_1003.out (fun k_ hk => (⟨hk, hk.2⟩ : _ ∧ k_ ≠ gb352))) (fun _ hk => hk.2) (.int .i64 x3_1)) (fun _ hk => hk.2) (.int .i64 x4_2)) (fun _ h_ => h_.1)))); (case side5 => exact (Kd.R_reads' HO_1003.out).2.1); rintro e w55 ⟨rfl, hb⟩; refine ⟨_, rfl, ?_⟩; have n0_ := Aside0.mk (Kd.R_below (by (with_reducible repeat (first | apply Kd.R_alloc | apply Kd.R_drewN | apply Kd.R_drew)); exact (Kd.R_mono (Kd.R_far (p := ⟨gb352, 1, none⟩) (Kd.R_far (p := ⟨gb352, 0, none⟩) (Kd.R_mono HO_1003.out (fun k_ hk => (⟨hk, hk.2⟩ : _ ∧ k_ ≠ gb352))) (fun _ hk => hk.2) (.int .i64 x3_1)) (fun _ hk => hk.2) (.int .i64 x4_2)) (fun _ h_ => h_.1))) hb); have n1_ := Aside0.mk (blk_below (g := g0) (o := .cells #[.slice A0_0 l0_0.length c0_0, .int .i64 a0_1, .int .i64 (wrap64 (x1002_2 - 1)), .slice Ao54 x1003_2.length co54, .bool x1004_2] 94 (0, 0)) (by (with_reducible repeat (first | refine blk_drewN ?_ _ | refine blk_drew ?_ | refine blk_alloc ?_ _)); refine blk_far ?_ NB0_352.out _; (with_reducible repeat (first | refine blk_drewN ?_ _ | refine blk_drew ?_ | refine blk_alloc ?_ _)); refine blk_far ?_ NB0_352.out _; (with_reducible repeat (first | refine blk_drewN ?_ _ | refine blk_drew ?_ | refine blk_alloc ?_ _)); exact BK0.out) hb); have n2_ := Aside0.mk (blk_below (g := gb352) (o := .cells #[.int .i64 x3_1, .int .i64 x4_2] 37 (0, 0)) (by (with_reducible repeat (first | refine blk_drewN ?_ _ | refine blk_drew ?_ | refine blk_alloc ?_ _)); refine blk_put (cs := #[.int .i64 x3_1, .int .i64 0]) ?_ 1 _ rfl; (with_reducible repeat (first | refine blk_drewN ?_ _ | refine blk_drew ?_ | refine blk_alloc ?_ _)); refine blk_put (cs := #[.int .i64 0, .int .i64 0]) ?_ 0 _ rfl; (with_reducible repeat (first | refine blk_drewN ?_ _ | refine blk_drew ?_ | refine blk_alloc ?_ _)); exact BK352.out) hb); have n3_ := Aside0.mk (Kept.below (w := w) (S := (fun k_ => (P0_3_ k_) ∨ k_ = g0)) (by repeat (first | (with_reducible first | exact HK.out | apply Kept.alloc | apply Kept.drewN | apply Kept.drew | refine Kept.setCell ?_ (.inl (.inr rfl)) _ | refine Kept.setCell ?_ (.inr GW352.out) _) | exact HK.out)) hb); have n4_ := Aside0.mk (below_step (bl2_ HB.out GE0.out GE352.out) hb); clear HO_1003; clear BK0; clear BK352; clear HK; clear HB; have HO_1003 := n0_; have BK0 := n1_; have BK352 := n2_; have HK := n3_; have HB := n4_; clear n0_ n1_ n2_ n3_ n4_; (try clear hb); (try clear hb2); (try clear hk); (try clear hi)))
            have n0_ := Aside0.mk (Kd.R_drew HO_1003.out)
            have n1_ := Aside0.mk (blk_drew BK0.out)
            have n2_ := Aside0.mk (blk_drew BK352.out)
            have n3_ := Aside0.mk (Kept.drew HK.out)
            have n4_ := Aside0.mk (below_drew1 HB.out)
            clear HO_1003
            clear BK0
            clear BK352
            clear HK
            clear HB
            have HO_1003 := n0_
            have BK0 := n1_
            have BK352 := n2_
            have HK := n3_
            have HB := n4_
            clear n0_ n1_ n2_ n3_ n4_
            refine start_ (n := 11) (S := fun w' => w'.cell? ⟨g0, 0, none⟩ = some (.slice A0_0 l0_0.length c0_0) ∧ w'.cell? ⟨g0, 1, none⟩ = some (.int .i64 a0_1) ∧ w'.cell? ⟨g0, 2, none⟩ = some (.int .i64 (wrap64 (x1002_2 - 1))) ∧ w'.cell? ⟨g0, 3, none⟩ = some (.slice Ao54 x1003_2.length co54) ∧ w'.cell? ⟨g0, 4, none⟩ = some (.bool x1004_2) ∧ w'.cell? ⟨gb352, 0, none⟩ = some (.int .i64 x3_1) ∧ w'.cell? ⟨gb352, 1, none⟩ = some (.int .i64 x4_2)) (ds := [10]) (nb_ 11 0) (by kernel_rfl) rfl rfl ⟨(blk_cell BK0.out 0).trans rfl, (blk_cell BK0.out 1).trans rfl, (blk_cell BK0.out 2).trans rfl, (blk_cell BK0.out 3).trans rfl, (blk_cell BK0.out 4).trans rfl, (blk_cell BK352.out 0).trans rfl, (blk_cell BK352.out 1).trans rfl⟩ (fun hHeld => ?_); refine with_tabW spec_l30Search_next.tab15 spec_l30Search_next.bits15 (fun HT_ HW_ => ?_)
            generalize w55.drew = w56 at HO_1003 BK0 BK352 HK HB hHeld ⊢
            refine puz_ 0 (some 55) (nb_ 11 1) rfl rfl (any_of HT_.out (by kernel_rfl)) ?_
            refine puz_ 1 (some 56) (nb_ 11 3) rfl rfl (any_of HT_.out (by kernel_rfl)) ?_
            refine puz_ 2 (some 57) (nb_ 11 7) rfl rfl (any_of HT_.out (by kernel_rfl)) ?_
            refine puz_ 3 (some 58) (nb_ 11 15) rfl rfl (any_of HT_.out (by kernel_rfl)) ?_
            refine tkz_ 4 (some 59) (nb_ 11 31) rfl rfl (take_ofW HT_.out HW_.out (by kernel_rfl)) hHeld ?_
            refine tkz_ 5 (some 60) (nb_ 11 63) rfl rfl (take_ofW HT_.out HW_.out (by kernel_rfl)) hHeld ?_
            refine one_ (i := 6) (N := some 61) (nb_ 11 127) rfl rfl (one_of HT_.out (by kernel_rfl)) (by decide) (fun K hK => ?_)
            refine value_ (w1 := ?_) (v := ?_) (by rfl) rfl ?_ ?_
            rotate_left 2
            ·go_simp
             constructor
             ·rfl
             ·rfl
            refine hK.out _ _ ⟨(blk_cell (blk_alloc BK0.out _) 0).trans rfl, (blk_cell (blk_alloc BK0.out _) 1).trans rfl, (blk_cell (blk_alloc BK0.out _) 2).trans rfl, (blk_cell (blk_alloc BK0.out _) 3).trans rfl, (blk_cell (blk_alloc BK0.out _) 4).trans rfl, (blk_cell (blk_alloc BK352.out _) 0).trans rfl, (blk_cell (blk_alloc BK352.out _) 1).trans rfl⟩ (fun hHeld => ?_)
            clear hK K
            refine norm_ (a' := ?_) ?_ ?_
            rotate_left
            ·show Act.put _ (some 61) _ = _
             simp only [Act.put, List.setIfInBounds_toArray, List.set_cons_zero, List.set_cons_succ, i64_w, i32_w]
             rfl
            refine one_ (i := 7) (N := some 62) (nb_ 11 255) rfl rfl (one_of HT_.out (by kernel_rfl)) (by decide) (fun K hK => ?_)
            refine Kd.R_append_step k37 (w0 := w0) w0.heap.size (by rfl) (.tmp 59) (.tmp 61) 29 37 (.agg #[(.int .i64 0), (.int .i64 0)]) 16 rfl Try.underlying29 info37 rfl (by decide) (by omega) (.slice Ao54 x1003_2.length co54) x1003_2 (⟨x3_1, x4_2⟩ : S37) [.int .i64 x3_1, .int .i64 x4_2] (fun k_ => (P0_3_ k_ ∨ w.heap.size ≤ k_) ∧ k_ ≠ gb352) (fun _ => False) rfl rfl ?aP (fun _ hk => hk.elim) ?aF ?aO ?aB ?aS ?aL ?_
            (case aP => exact k37_mkM _ _ _ (⟨x3_1, x4_2⟩ : S37))
            (case aB => exact (bl2_ HB.out GE0.out GE352.out))
            (case aF => exact (fun k_ hk => ⟨(.inr (Nat.le_trans (by first | exact HK.out.1 | exact (show Kept w _ (fun k_ => (P0_3_ k_) ∨ k_ = g0) from by repeat (first | (with_reducible first | exact HK.out | apply Kept.alloc | apply Kept.drewN | apply Kept.drew | refine Kept.setCell ?_ (.inl (.inr rfl)) _ | refine Kept.setCell ?_ (.inr GW352.out) _) | exact HK.out)).1) hk)), Kd.freshB (g := gb352) (o := .cells #[.int .i64 x3_1, .int .i64 x4_2] 37 (0, 0)) (bk_ BK352.out) k_ hk⟩))
            (case aO => exact (ra_ HO_1003.out))
            (case aS => exact (below_size (bl2_ HB.out GE0.out GE352.out)))
            (case aL => have := LMc14.out; omega)
            intro v355 w57 ho hb hg hat
            rw [← Ny354.out] at ho
            have n0_ := Aside0.mk (blk_grown (g := g0) (o := .cells #[.slice A0_0 l0_0.length c0_0, .int .i64 a0_1, .int .i64 (wrap64 (x1002_2 - 1)), .slice Ao54 x1003_2.length co54, .bool x1004_2] 94 (0, 0)) (bk_ BK0.out) hg (Kd.R_ne HO_1003.out BK0.out (by decide)))
            have n1_ := Aside0.mk (blk_grown (g := gb352) (o := .cells #[.int .i64 x3_1, .int .i64 x4_2] 37 (0, 0)) (bk_ BK352.out) hg (Kd.R_away HO_1003.out (fun _ hk => hk.2)))
            have n2_ := Aside0.mk (hb)
            have n3_ := Aside0.mk (Kept.of_grown (w := w) (S := (fun k_ => (P0_3_ k_) ∨ k_ = g0)) hg (by repeat (first | (with_reducible first | exact HK.out | apply Kept.alloc | apply Kept.drewN | apply Kept.drew | refine Kept.setCell ?_ (.inl (.inr rfl)) _ | refine Kept.setCell ?_ (.inr GW352.out) _) | exact HK.out)) (fun k_ e_ => Or.imp_left Or.inl ((HO_1003.out.1 k_ e_).1)))
            have n4_ := Aside0.mk (ho)
            clear BK0
            clear BK352
            clear HB
            clear HK
            clear HO_1003
            have BK0 := n0_
            have BK352 := n1_
            have HB := n2_
            have HK := n3_
            have HO356 := n4_
            clear n0_ n1_ n2_ n3_ n4_
            clear ho hb hg hat
            obtain ⟨Ao58, co58, eo58⟩ := Kd.R_slice HO356.out
            (first | subst eo58 | (injection eo58 with f1_ f2_ f3_; have f4_ := f1_.symm; have f5_ := f3_.symm; clear f1_ f2_ f3_; subst f4_; subst f5_))
            refine hK.out _ _ ⟨(blk_cell BK0.out 0).trans rfl, (blk_cell BK0.out 1).trans rfl, (blk_cell BK0.out 2).trans rfl, (blk_cell BK0.out 3).trans rfl, (blk_cell BK0.out 4).trans rfl, (blk_cell BK352.out 0).trans rfl, (blk_cell BK352.out 1).trans rfl⟩ (fun hHeld => ?_)
            clear hK K
            refine norm_ (a' := ?_) ?_ ?_
            rotate_left
            ·show Act.put _ (some 62) _ = _
             simp only [Act.put, List.setIfInBounds_toArray, List.set_cons_zero, List.set_cons_succ, i64_w, i32_w]
             rfl
            refine puz_ 8 (some 63) (nb_ 11 511) rfl rfl (any_of HT_.out (by kernel_rfl)) ?_
            refine puz_ 9 (some 64) (nb_ 11 1023) rfl rfl (any_of HT_.out (by kernel_rfl)) ?_
            refine last_ (i := 10) (N := none) (nb_ 11 2047) rfl rfl (one_of HT_.out (by kernel_rfl)) (by decide) (fun K hK => ?_)
            have hs59 : w57.cell? ⟨g0, 3, none⟩ = some (.slice Ao54 x1003_2.length co54) := (blk_cell BK0.out 3).trans rfl
            have hfs59 := blk_frozen BK0.out 3
            have hns59_1 := NB352_0.out
            have hms59_1 := NB0_352.out
            refine skip_ (w1 := ?_) (by rfl) rfl ?_ ?_
            rotate_left
            ·go_simp
             rfl
            refine hK.out _ _ ?_
            clear hK K
            refine done_ (done_of HT_.out (by kernel_rfl)) ?_
            have n0_ : Aside0 (Kd.R k37 37 (w57.setCell ⟨g0, 3, none⟩ (.slice Ao58 y354.length co58)) w0.heap.size (fun k_ => (P0_3_ k_ ∨ w.heap.size ≤ k_) ∧ k_ ≠ gb352) (.slice Ao58 y354.length co58) y354) := ⟨by (with_reducible repeat (first | apply Kd.R_alloc | apply Kd.R_drewN | apply Kd.R_drew)); exact Kd.R_mono (Kd.R_far (p := ⟨g0, 3, none⟩) (Kd.R_types HO356.out BK0.out (by decide)) (fun _ hk => hk.2) (.slice Ao58 y354.length co58)) (fun _ hk => ⟨hk.1.1, hk.1.2⟩)⟩
            have n1_ : Aside0 ((w57.setCell ⟨g0, 3, none⟩ (.slice Ao58 y354.length co58)).heap[g0]? = some (.cells #[.slice A0_0 l0_0.length c0_0, .int .i64 a0_1, .int .i64 (wrap64 (x1002_2 - 1)), .slice Ao58 y354.length co58, .bool x1004_2] 94 (0, 0))) := ⟨by (with_reducible repeat (first | refine blk_drewN ?_ _ | refine blk_drew ?_ | refine blk_alloc ?_ _)); refine blk_put (cs := #[.slice A0_0 l0_0.length c0_0, .int .i64 a0_1, .int .i64 (wrap64 (x1002_2 - 1)), .slice Ao54 x1003_2.length co54, .bool x1004_2]) ?_ 3 _ rfl; (with_reducible repeat (first | refine blk_drewN ?_ _ | refine blk_drew ?_ | refine blk_alloc ?_ _)); exact BK0.out⟩
            have n2_ : Aside0 ((w57.setCell ⟨g0, 3, none⟩ (.slice Ao58 y354.length co58)).heap[gb352]? = some (.cells #[.int .i64 x3_1, .int .i64 x4_2] 37 (0, 0))) := ⟨by (with_reducible repeat (first | refine blk_drewN ?_ _ | refine blk_drew ?_ | refine blk_alloc ?_ _)); refine blk_far ?_ NB352_0.out _; (with_reducible repeat (first | refine blk_drewN ?_ _ | refine blk_drew ?_ | refine blk_alloc ?_ _)); exact BK352.out⟩
            have n3_ : Aside0 (Kept w (w57.setCell ⟨g0, 3, none⟩ (.slice Ao58 y354.length co58)) (fun k_ => (P0_3_ k_) ∨ k_ = g0)) := ⟨by repeat (first | (with_reducible first | exact HK.out | apply Kept.alloc | apply Kept.drewN | apply Kept.drew | refine Kept.setCell ?_ (.inl (.inr rfl)) _ | refine Kept.setCell ?_ (.inr GW352.out) _) | exact HK.out)⟩
            have n4_ : Aside0 (Below w0.heap.size w0 (w57.setCell ⟨g0, 3, none⟩ (.slice Ao58 y354.length co58))) := ⟨bl2_ HB.out GE0.out GE352.out⟩
            (try clear HO356)
            (try clear BK0)
            (try clear BK352)
            (try clear HK)
            (try clear HB)
            generalize (w57.setCell ⟨g0, 3, none⟩ (.slice Ao58 y354.length co58)) = w60 at n0_ n1_ n2_ n3_ n4_ ⊢
            have HO356 := n0_
            have BK0 := n1_
            have BK352 := n2_
            have HK := n3_
            have HB := n4_
            clear n0_ n1_ n2_ n3_ n4_
            try go_wp2_with (first | ((with_reducible refine gate_callee (f := 53) rfl ?_); refine goesL_ (some 66) rfl rfl Try.func53 (by kernel_rfl) rfl #[.pointer (some ⟨g0, 0, none⟩)] rfl mp_ ?_; (with_reducible refine (ih k2 (by have := HK1.out; have := HK2.out; omega) g0 A0_0 c0_0 l0_0 a0_1 (wrap64 (x1002_2 - 1)) (fun k_ => some k_ = (.slice Ao58 y354.length co58 : Value).ownBlock) (.slice Ao58 y354.length co58) y354 x1004_2 false t358 t359 false w0 _ ?side1 ?side2 ?side3 ?side4 ?side5 ?side6 A15.out).mono ?_); (case side1 => repeat (first | (with_reducible first | exact HB.out | apply below_alloc | apply pw_below_drewN | apply below_drew1 | refine below_set ?_ GE0.out | refine below_set ?_ GE352.out) | exact HB.out)); (case side2 => exact by (with_reducible repeat (first | refine blk_drewN ?_ _ | refine blk_drew ?_ | refine blk_alloc ?_ _)); exact BK0.out); (case side3 => exact GE0.out); (case side4 => exact Kd.C_kept_call HR0_0.out (by repeat (first | (with_reducible first | exact HK.out | apply Kept.alloc | apply Kept.drewN | apply Kept.drew | refine Kept.setCell ?_ (.inl (.inr rfl)) _ | refine Kept.setCell ?_ (.inr GW352.out) _) | exact HK.out)) (fun k_ hs_ => Or.elim hs_ (fun hs_ => (fun e_ => Or.imp_left Or.inl ((HO356.out.1 k_ e_.symm).1)) hs_) (fun e_ => .inl (.inr e_)))); (case side5 => exact HC0_0.out); (case side6 => exact Kd.R_tight rfl HO356.out); rintro e w61 ⟨v360, rfl, hbx, ho0, hb, hkp⟩; refine ⟨_, rfl, ?_⟩; have n0_ := Aside0.mk (hbx); have n1_ := Aside0.mk (blk_kept (bk_ BK352.out) hkp (fun hs_ => Or.elim hs_ (fun hs_ => (fun e_ => (Kd.R_away HO356.out (fun _ hk => hk.2)) e_) hs_) (fun e_ => NB352_0.out e_))); have n2_ := Aside0.mk (Kd.R_mono (ok' := fun k_ => (P0_3_ k_ ∨ w.heap.size ≤ k_) ∧ k_ ≠ gb352) ho0 (fun k_ hk_ => ⟨Or.elim hk_ (fun hs_ => (HO356.out.1 k_ (hs_).symm).1) (fun hn_ => (.inr (Nat.le_trans (by first | exact HK.out.1 | exact (show Kept w _ (fun k_ => (P0_3_ k_) ∨ k_ = g0) from by repeat (first | (with_reducible first | exact HK.out | apply Kept.alloc | apply Kept.drewN | apply Kept.drew | refine Kept.setCell ?_ (.inl (.inr rfl)) _ | refine Kept.setCell ?_ (.inr GW352.out) _) | exact HK.out)).1) hn_))), Or.elim hk_ (fun hs_ => fun e_ => (Kd.R_away HO356.out (fun _ hk => hk.2)) (by rw [← e_]; exact hs_)) (fun hn_ => (Kd.freshB (g := gb352) (o := .cells #[.int .i64 x3_1, .int .i64 x4_2] 37 (0, 0)) (bk_ BK352.out) k_ hn_))⟩)); have n3_ := Aside0.mk (Kept.then_ (w := w) (S := (fun k_ => (P0_3_ k_) ∨ k_ = g0)) (by repeat (first | (with_reducible first | exact HK.out | apply Kept.alloc | apply Kept.drewN | apply Kept.drew | refine Kept.setCell ?_ (.inl (.inr rfl)) _ | refine Kept.setCell ?_ (.inr GW352.out) _) | exact HK.out)) hkp (fun k_ hs_ => Or.elim hs_ (fun hs_ => (fun e_ => Or.imp_left Or.inl ((HO356.out.1 k_ e_.symm).1)) hs_) (fun e_ => .inl (.inr e_)))); have n4_ := Aside0.mk (hb); clear BK0; clear BK352; clear HK; clear HB; clear HO356; have BK0 := n0_; have BK352 := n1_; have HO361 := n2_; have HK := n3_; have HB := n4_; clear n0_ n1_ n2_ n3_ n4_; (try clear hb); (try clear hkp); (try clear ho0)))
            have n0_ := Aside0.mk (Kd.R_drew HO361.out)
            have n1_ := Aside0.mk (blk_drew BK0.out)
            have n2_ := Aside0.mk (blk_drew BK352.out)
            have n3_ := Aside0.mk (Kept.drew HK.out)
            have n4_ := Aside0.mk (below_drew1 HB.out)
            clear HO361
            clear BK0
            clear BK352
            clear HK
            clear HB
            have HO361 := n0_
            have BK0 := n1_
            have BK352 := n2_
            have HK := n3_
            have HB := n4_
            clear n0_ n1_ n2_ n3_ n4_
            obtain ⟨Ao63, co63, eo63⟩ := Kd.R_slice HO361.out
            (first | subst eo63 | (injection eo63 with f1_ f2_ f3_; have f4_ := f1_.symm; have f5_ := f3_.symm; clear f1_ f2_ f3_; subst f4_; subst f5_))
            have q64 : ((ji29) : Int) ≤ ((t359.length : Int) : Int) := od_
            obtain ⟨i064, hi064, _, hsz64, _⟩ := info_parts info37
            have hcut64 := cut_to (P := Try.prog) 29 37 .i64 Try.underlying29 hi064 Ao63 t359.length co63 (ji29) (od_) q64 (Kd.R_reads' HO361.out).2.1
            have hr64 := Kd.R_take (m := ((ji29) : Int).toNat) HO361.out (by omega)
            have hy64 : y363.length = ((ji29) : Int).toNat := (by rw [Ny363.out, List.length_take]; omega)
            rw [← Ny363.out] at hr64
            rw [← hy64] at hr64 hcut64
            clear hy64 hi064 hsz64 HO361
            have HO365 := Aside0.mk hr64
            clear hr64
            replace q64 := eq_true q64
            refine start_ (n := 15) (S := fun w' => w'.cell? ⟨g0, 0, none⟩ = some (.slice A0_0 l0_0.length c0_0) ∧ w'.cell? ⟨g0, 1, none⟩ = some (.int .i64 a0_1) ∧ w'.cell? ⟨g0, 2, none⟩ = some (.int .i64 t358) ∧ w'.cell? ⟨g0, 3, none⟩ = some (.slice Ao63 t359.length co63) ∧ w'.cell? ⟨g0, 4, none⟩ = some (.bool false)) (ds := [14]) (nb_ 15 0) (by kernel_rfl) rfl rfl ⟨(blk_cell BK0.out 0).trans rfl, (blk_cell BK0.out 1).trans rfl, (blk_cell BK0.out 2).trans rfl, (blk_cell BK0.out 3).trans rfl, (blk_cell BK0.out 4).trans rfl⟩ (fun hHeld => ?_); refine with_tabW spec_l30Search_next.tab18 spec_l30Search_next.bits18 (fun HT_ HW_ => ?_)
            generalize w61.drew = w62 at BK0 BK352 HK HB HO365 hHeld ⊢
            refine puz_ 0 (some 67) (nb_ 15 1) rfl rfl (any_of HT_.out (by kernel_rfl)) ?_
            refine puz_ 1 (some 68) (nb_ 15 3) rfl rfl (any_of HT_.out (by kernel_rfl)) ?_
            refine puz_ 2 (some 69) (nb_ 15 7) rfl rfl (any_of HT_.out (by kernel_rfl)) ?_
            refine puz_ 3 (some 70) (nb_ 15 15) rfl rfl (any_of HT_.out (by kernel_rfl)) ?_
            refine puz_ 5 (some 72) (nb_ 15 47) rfl rfl (any_of HT_.out (by kernel_rfl)) ?_
            refine puz_ 6 (some 73) (nb_ 15 111) rfl rfl (any_of HT_.out (by kernel_rfl)) ?_
            refine puz_ 7 (some 74) (nb_ 15 239) rfl rfl (any_of HT_.out (by kernel_rfl)) ?_
            refine tkz_ 4 (some 71) (nb_ 15 255) rfl rfl (take_ofW HT_.out HW_.out (by kernel_rfl)) hHeld ?_
            refine tkz_ 8 (some 75) (nb_ 15 511) rfl rfl (take_ofW HT_.out HW_.out (by kernel_rfl)) hHeld ?_
            refine puz_ 9 (some 76) (nb_ 15 1023) rfl rfl (any_of HT_.out (by kernel_rfl)) ?_
            refine puz_ 10 (some 77) (nb_ 15 2047) rfl rfl (any_of HT_.out (by kernel_rfl)) ?_
            refine puz_ 11 (some 78) (nb_ 15 4095) rfl rfl (any_of HT_.out (by kernel_rfl)) ?_
            refine puz_ 12 (some 79) (nb_ 15 8191) rfl rfl (any_of HT_.out (by kernel_rfl)) ?_
            refine puz_ 13 (some 80) (nb_ 15 16383) rfl rfl (any_of HT_.out (by kernel_rfl)) ?_
            refine last_ (i := 14) (N := none) (nb_ 15 32767) rfl rfl (one_of HT_.out (by kernel_rfl)) (by decide) (fun K hK => ?_)
            have hs65 : w62.cell? ⟨g0, 3, none⟩ = some (.slice Ao63 t359.length co63) := (blk_cell BK0.out 3).trans rfl
            have hfs65 := blk_frozen BK0.out 3
            have hns65_1 := NB352_0.out
            have hms65_1 := NB0_352.out
            refine skip_ (w1 := ?_) (by rfl) rfl ?_ ?_
            rotate_left
            ·go_simp
             rfl
            refine hK.out _ _ ?_
            clear hK K
            refine done_ (done_of HT_.out (by kernel_rfl)) ?_
            obtain ⟨hcz66_0, hcz66_1, hcz66_2, hcz66_3, hcz66_4, hfz66_0, hfz66_1, hfz66_2, hfz66_3, hfz66_4⟩ := cz5_ BK0.out
            try go_wp2
            go_roundg k2
            case measure => have := HK1.out; have := HK2.out; omega
            case rel => exact ⟨(wrap64 (x4_2 + 1)), (t358), (y363), (false), (.slice Ao63 y363.length co63), rs_, H', ⟨by have := HK1.out; have := HK2.out; omega⟩, ⟨by (with_reducible repeat (first | apply Kd.R_alloc | apply Kd.R_drewN | apply Kd.R_drew)); exact Kd.R_mono (Kd.R_far (p := ⟨g0, 3, none⟩) (Kd.R_types HO365.out BK0.out (by decide)) (fun _ hk => hk.2) (.slice Ao63 y363.length co63)) (fun _ hk => hk.1.1)⟩, ⟨by (with_reducible repeat (first | refine blk_drewN ?_ _ | refine blk_drew ?_ | refine blk_alloc ?_ _)); refine blk_put (cs := #[.slice A0_0 l0_0.length c0_0, .int .i64 a0_1, .int .i64 t358, .slice Ao63 t359.length co63, .bool false]) ?_ 3 _ rfl; (with_reducible repeat (first | refine blk_drewN ?_ _ | refine blk_drew ?_ | refine blk_alloc ?_ _)); exact BK0.out⟩, ⟨by repeat (first | (with_reducible first | exact HK.out | apply Kept.alloc | apply Kept.drewN | apply Kept.drew | refine Kept.setCell ?_ (.inl (.inr rfl)) _ | refine Kept.setCell ?_ (.inr GW352.out) _) | exact HK.out)⟩, ⟨bl2_ HB.out GE0.out GE352.out⟩⟩
         ·replace c13 := Bool.eq_false_iff.mpr c13
          subst c13
          have H1 : (spec_l30Search_next.l1 k2 x3_1 (wrap64 (x4_2 + 1)) l0_0 a0_1 (wrap64 (x1002_2 - 1)) x1003_2 x1004_2) = some (r1, r2, r3, r4) := by rw [if_neg (show ¬ (false = true) by decide)] at H; exact H
          clear H
          have H := H1
          clear H1
          have H' := Aside0.mk H
          clear H
          obtain ⟨hcz67_0, hcz67_1, hcz67_2, hcz67_3, hcz67_4, hfz67_0, hfz67_1, hfz67_2, hfz67_3, hfz67_4⟩ := cz5_ BK0.out
          go_wp2_with (first | ((with_reducible refine gate_dst (N := 5) rfl ?_); refine box_event ?hg (N := 5) ?hd (cs := #[.int .i64 0, .int .i64 0]) (t := 37) ?hr ?_; (case hd => rfl); (case hg => rfl); (case hr => first | (go_simp; done) | (go_simp; rfl)); intro gb352 hg w68 hbox hb; have n0_ := Aside0.mk (Kd.R_below (Kd.R_elderB (by (with_reducible repeat (first | apply Kd.R_alloc | apply Kd.R_drewN | apply Kd.R_drew)); exact (Kd.R_mono (Kd.R_far (p := ⟨g0, 2, none⟩) (Kd.R_types HO_1003.out BK0.out (by decide)) (fun _ hk => hk.2) (.int .i64 (wrap64 (x1002_2 - 1)))) (fun _ h_ => h_.1))) gb352 (Nat.le_of_eq hg.symm)) hb); have n1_ := Aside0.mk (blk_below (g := g0) (o := .cells #[.slice A0_0 l0_0.length c0_0, .int .i64 a0_1, .int .i64 (wrap64 (x1002_2 - 1)), u1003, .bool x1004_2] 94 (0, 0)) (by (with_reducible repeat (first | refine blk_drewN ?_ _ | refine blk_drew ?_ | refine blk_alloc ?_ _)); refine blk_put (cs := #[.slice A0_0 l0_0.length c0_0, .int .i64 a0_1, .int .i64 x1002_2, u1003, .bool x1004_2]) ?_ 2 _ rfl; (with_reducible repeat (first | refine blk_drewN ?_ _ | refine blk_drew ?_ | refine blk_alloc ?_ _)); exact BK0.out) hb); have n2_ := Aside0.mk (Kept.below (w := w) (S := (fun k_ => (P0_3_ k_) ∨ k_ = g0)) (by repeat (first | (with_reducible first | exact HK.out | apply Kept.alloc | apply Kept.drewN | apply Kept.drew | refine Kept.setCell ?_ (.inl (.inr rfl)) _) | exact HK.out)) hb); have n3_ := Aside0.mk (below_step (bl1_ HB.out GE0.out) hb); have n4_ := Aside0.mk (hbox); have n5_ := Aside0.mk ((by rw [hg]; exact (show Kept w _ (fun k_ => (P0_3_ k_) ∨ k_ = g0) from by repeat (first | (with_reducible first | exact HK.out | apply Kept.alloc | apply Kept.drewN | apply Kept.drew | refine Kept.setCell ?_ (.inl (.inr rfl)) _) | exact HK.out)).1 : w.heap.size ≤ gb352)); have n6_ := Aside0.mk ((by rw [hg]; exact (below_size (bl1_ HB.out GE0.out)) : w0.heap.size ≤ gb352)); have n7_ := Aside0.mk ((by rw [hg]; exact Nat.ne_of_lt (blk_lt (g := g0) (o := .cells #[.slice A0_0 l0_0.length c0_0, .int .i64 a0_1, .int .i64 (wrap64 (x1002_2 - 1)), u1003, .bool x1004_2] 94 (0, 0)) (by (with_reducible repeat (first | refine blk_drewN ?_ _ | refine blk_drew ?_ | refine blk_alloc ?_ _)); refine blk_put (cs := #[.slice A0_0 l0_0.length c0_0, .int .i64 a0_1, .int .i64 x1002_2, u1003, .bool x1004_2]) ?_ 2 _ rfl; (with_reducible repeat (first | refine blk_drewN ?_ _ | refine blk_drew ?_ | refine blk_alloc ?_ _)); exact BK0.out)) : g0 ≠ gb352)); have n8_ := Aside0.mk ((by rw [hg]; exact Nat.ne_of_gt (blk_lt (g := g0) (o := .cells #[.slice A0_0 l0_0.length c0_0, .int .i64 a0_1, .int .i64 (wrap64 (x1002_2 - 1)), u1003, .bool x1004_2] 94 (0, 0)) (by (with_reducible repeat (first | refine blk_drewN ?_ _ | refine blk_drew ?_ | refine blk_alloc ?_ _)); refine blk_put (cs := #[.slice A0_0 l0_0.length c0_0, .int .i64 a0_1, .int .i64 x1002_2, u1003, .bool x1004_2]) ?_ 2 _ rfl; (with_reducible repeat (first | refine blk_drewN ?_ _ | refine blk_drew ?_ | refine blk_alloc ?_ _)); exact BK0.out)) : gb352 ≠ g0)); clear HO_1003; clear BK0; clear HK; clear HB; have HO_1003 := n0_; have BK0 := n1_; have HK := n2_; have HB := n3_; have BK352 := n4_; have GW352 := n5_; have GE352 := n6_; have NB0_352 := n7_; have NB352_0 := n8_; clear n0_ n1_ n2_ n3_ n4_ n5_ n6_ n7_ n8_; clear hb hbox hg; have hnb69 := NB352_0.out; have hnc69 := NB0_352.out; obtain ⟨hcz70_0, hcz70_1, hfz70_0, hfz70_1⟩ := cz2_ BK352.out; obtain ⟨Ao71, co71, eo71⟩ := Kd.R_slice HO_1003.out; subst eo71) | ((with_reducible refine gate_callee (f := 61) rfl ?_); refine goesL_ (some 53) rfl rfl Try.func61 (by kernel_rfl) rfl #[.pointer (some ⟨g0, 0, none⟩), .agg #[.int .i64 x3_1, .int .i64 x4_2]] rfl mp_ ?_; (with_reducible refine (spec_l30Search_fits.calls k2 g0 A0_0 c0_0 l0_0 a0_1 (wrap64 (x1002_2 - 1)) Ao71 co71 x1003_2 x1004_2 x3_1 x4_2 false _ ?side1 ?side2 ?side3 ?side4 ?side5 A12.out).mono ?_); (case side1 => exact by (with_reducible repeat (first | refine blk_drewN ?_ _ | refine blk_drew ?_ | refine blk_alloc ?_ _)); refine blk_far ?_ NB0_352.out _; (with_reducible repeat (first | refine blk_drewN ?_ _ | refine blk_drew ?_ | refine blk_alloc ?_ _)); refine blk_far ?_ NB0_352.out _; (with_reducible repeat (first | refine blk_drewN ?_ _ | refine blk_drew ?_ | refine blk_alloc ?_ _)); exact BK0.out); (case side2 => exact Kd.C_kept_now HR0_0.out (by repeat (first | (with_reducible first | exact HK.out | apply Kept.alloc | apply Kept.drewN | apply Kept.drew | refine Kept.setCell ?_ (.inl (.inr rfl)) _ | refine Kept.setCell ?_ (.inr GW352.out) _) | exact HK.out))); (case side3 => exact HC0_0.out); (case side4 => refine (Kd.R_reads' (e := 37) (base := w0.heap.size) (ok := fun k_ => ((P0_3_ k_ ∨ w.heap.size ≤ k_) ∧ k_ ≠ gb352)) (n := x1003_2.length) (c := co71) ?_).2.2; exact (by (with_reducible repeat (first | apply Kd.R_alloc | apply Kd.R_drewN | apply Kd.R_drew)); exact (Kd.R_mono (Kd.R_far (p := ⟨gb352, 1, none⟩) (Kd.R_far (p := ⟨gb352, 0, none⟩) (Kd.R_mono HO_1003.out (fun k_ hk => (⟨hk, hk.2⟩ : _ ∧ k_ ≠ gb352))) (fun _ hk => hk.2) (.int .i64 x3_1)) (fun _ hk => hk.2) (.int .i64 x4_2)) (fun _ h_ => h_.1)))); (case side5 => exact (Kd.R_reads' HO_1003.out).2.1); rintro e w72 ⟨rfl, hb⟩; refine ⟨_, rfl, ?_⟩; have n0_ := Aside0.mk (Kd.R_below (by (with_reducible repeat (first | apply Kd.R_alloc | apply Kd.R_drewN | apply Kd.R_drew)); exact (Kd.R_mono (Kd.R_far (p := ⟨gb352, 1, none⟩) (Kd.R_far (p := ⟨gb352, 0, none⟩) (Kd.R_mono HO_1003.out (fun k_ hk => (⟨hk, hk.2⟩ : _ ∧ k_ ≠ gb352))) (fun _ hk => hk.2) (.int .i64 x3_1)) (fun _ hk => hk.2) (.int .i64 x4_2)) (fun _ h_ => h_.1))) hb); have n1_ := Aside0.mk (blk_below (g := g0) (o := .cells #[.slice A0_0 l0_0.length c0_0, .int .i64 a0_1, .int .i64 (wrap64 (x1002_2 - 1)), .slice Ao71 x1003_2.length co71, .bool x1004_2] 94 (0, 0)) (by (with_reducible repeat (first | refine blk_drewN ?_ _ | refine blk_drew ?_ | refine blk_alloc ?_ _)); refine blk_far ?_ NB0_352.out _; (with_reducible repeat (first | refine blk_drewN ?_ _ | refine blk_drew ?_ | refine blk_alloc ?_ _)); refine blk_far ?_ NB0_352.out _; (with_reducible repeat (first | refine blk_drewN ?_ _ | refine blk_drew ?_ | refine blk_alloc ?_ _)); exact BK0.out) hb); have n2_ := Aside0.mk (blk_below (g := gb352) (o := .cells #[.int .i64 x3_1, .int .i64 x4_2] 37 (0, 0)) (by (with_reducible repeat (first | refine blk_drewN ?_ _ | refine blk_drew ?_ | refine blk_alloc ?_ _)); refine blk_put (cs := #[.int .i64 x3_1, .int .i64 0]) ?_ 1 _ rfl; (with_reducible repeat (first | refine blk_drewN ?_ _ | refine blk_drew ?_ | refine blk_alloc ?_ _)); refine blk_put (cs := #[.int .i64 0, .int .i64 0]) ?_ 0 _ rfl; (with_reducible repeat (first | refine blk_drewN ?_ _ | refine blk_drew ?_ | refine blk_alloc ?_ _)); exact BK352.out) hb); have n3_ := Aside0.mk (Kept.below (w := w) (S := (fun k_ => (P0_3_ k_) ∨ k_ = g0)) (by repeat (first | (with_reducible first | exact HK.out | apply Kept.alloc | apply Kept.drewN | apply Kept.drew | refine Kept.setCell ?_ (.inl (.inr rfl)) _ | refine Kept.setCell ?_ (.inr GW352.out) _) | exact HK.out)) hb); have n4_ := Aside0.mk (below_step (bl2_ HB.out GE0.out GE352.out) hb); clear HO_1003; clear BK0; clear BK352; clear HK; clear HB; have HO_1003 := n0_; have BK0 := n1_; have BK352 := n2_; have HK := n3_; have HB := n4_; clear n0_ n1_ n2_ n3_ n4_; (try clear hb); (try clear hb2); (try clear hk); (try clear hi)))
          go_roundg k2
          case measure => have := HK1.out; have := HK2.out; omega
          case rel => exact ⟨(wrap64 (x4_2 + 1)), (wrap64 (x1002_2 - 1)), (x1003_2), (x1004_2), (.slice Ao71 x1003_2.length co71), rs_, H', ⟨by have := HK1.out; have := HK2.out; omega⟩, ⟨by (with_reducible repeat (first | apply Kd.R_alloc | apply Kd.R_drewN | apply Kd.R_drew)); exact Kd.R_mono HO_1003.out (fun _ hk => hk.1)⟩, ⟨bk_ BK0.out⟩, ⟨by repeat (first | (with_reducible first | exact HK.out | apply Kept.alloc | apply Kept.drewN | apply Kept.drew | refine Kept.setCell ?_ (.inl (.inr rfl)) _ | refine Kept.setCell ?_ (.inr GW352.out) _) | exact HK.out)⟩, ⟨bl2_ HB.out GE0.out GE352.out⟩⟩
       ·rw [if_neg c9] at H
        have c9b0 := decide_eq_false c9
        clear c9
        have H' := Aside0.mk H
        clear H
        obtain ⟨hcz73_0, hcz73_1, hcz73_2, hcz73_3, hcz73_4, hfz73_0, hfz73_1, hfz73_2, hfz73_3, hfz73_4⟩ := cz5_ BK0.out
        go_wp2
        go_roundg k2
        case measure => have := HK1.out; have := HK2.out; omega
        case rel => exact ⟨(wrap64 (x3_1 + 1)), (x1002_2), (x1003_2), (x1004_2), (u1003), rs_, H', ⟨by have := HK1.out; have := HK2.out; omega⟩, ⟨ra_ HO_1003.out⟩, ⟨bk_ BK0.out⟩, ⟨by repeat (first | (with_reducible first | exact HK.out | apply Kept.alloc | apply Kept.drewN | apply Kept.drew | refine Kept.setCell ?_ (.inl (.inr rfl)) _) | exact HK.out)⟩, ⟨bl1_ HB.out GE0.out⟩⟩
    ·rw [if_neg c7] at H
     have c7b0 := decide_eq_false c7
     clear c7
     simp only [Option.some.injEq, Prod.mk.injEq] at H
     obtain ⟨rfl, rfl, rfl, rfl⟩ := H
     obtain ⟨hcz74_0, hcz74_1, hcz74_2, hcz74_3, hcz74_4, hfz74_0, hfz74_1, hfz74_2, hfz74_3, hfz74_4⟩ := cz5_ BK0.out
     go_wp2
     go_ret
     exact ⟨(u1003), by first | rfl | (simp [errW_none, errW_some] <;> rfl) | (simp [*, errW_none, errW_some] <;> rfl), by (with_reducible repeat (first | refine blk_drewN ?_ _ | refine blk_drew ?_ | refine blk_alloc ?_ _)); exact BK0.out, ra_ HO_1003.out, by repeat (first | (with_reducible first | exact HB.out | apply below_alloc | apply pw_below_drewN | apply below_drew1 | refine below_set ?_ GE0.out) | exact HB.out), by repeat (first | (with_reducible first | exact HK.out | apply Kept.alloc | apply Kept.drewN | apply Kept.drew | refine Kept.setCell ?_ (.inl (.inr rfl)) _) | exact HK.out)⟩

end Go.Proofs.Ytmckbecegiegaaa.A
