/- For functions of the translation: a Lean function each, and that the call of the Go function comes to its answer. Written by this session's own program (myprint.py, over the kit's printer). -/
import Derived.Test.YtmckbecegiegaaaAx0
import Derived.Test.YtmckbecegiegaaaAx5
--compacted
namespace Go.Proofs.Ytmckbecegiegaaa.A
open Go.RowKit Go.Proofs.YtmckbecegiegaaaW.PrintWords Go.Proofs.YtmckbecegiegaaaW.PrintLast Go.Proofs.YtmckbecegiegaaaW.PrintMore
attribute [local go_sem] max2_int min2_int max_two min_two max_three min_three max_four min_four   -- for this text's walks alone
set_option linter.unusedVariables false
set_option linter.unusedSimpArgs false

/-! ### impl_packer_search: function 46 -/
mutual
def impl_packer_search.l0 : Nat → Int → Int → Int → List (List Int) → Int → Int → Int → List (S37) → Option (Bool × Int × (List (S37)))
 | 0, _, _, _, _, _, _, _, _ => none
 | k + 1, x3, x27, x28, x1000, x1001, x1002, x1003, x1004 => if x28 < x27 then (if x1003 = x1002 then (some (true, wrap64 (x1003 + 1), x1004)) else (if 0 ≤ x3 then (if x3 ≤ (x1004.length : Int) then ((some (x1004.take (x3 : Int).toNat : List (S37))).bind fun y208 => (if (wrap64 (x1001 + 1)) = 0 then (none) else (if y208.length < 8796093022208 then ((some (y208 ++ [(⟨wrap64 (Int.tdiv x28 (wrap64 (x1001 + 1))), Int.tmod x28 (wrap64 (x1001 + 1))⟩ : S37)] : List (S37))).bind fun y211 => ((impl_isApart.f k x1000 y211).bind fun t214 => (if t214 = true then ((impl_packer_search.f k x1000 x1001 x1002 (wrap64 (x1003 + 1)) y211).bind fun bt215 => (if bt215.1 = true then (some (true, bt215.2.1, bt215.2.2)) else (impl_packer_search.l0 k x3 x27 (wrap64 (x28 + 1)) x1000 x1001 x1002 bt215.2.1 bt215.2.2))) else (impl_packer_search.l0 k x3 x27 (wrap64 (x28 + 1)) x1000 x1001 x1002 (wrap64 (x1003 + 1)) y211)))) else (none)))) else (none)) else (none))) else (if 0 ≤ x3 then (if x3 ≤ (x1004.length : Int) then (some (false, x1003, (x1004.take (x3 : Int).toNat))) else (none)) else (none))
def impl_packer_search.f : Nat → List (List Int) → Int → Int → Int → List (S37) → Option (Bool × Int × (List (S37)))
 | 0, _, _, _, _, _ => none
 | k + 1, l0_0, a0_1, a0_2, a0_3, l0_4 => if (l0_4.length : Int) = (l0_0.length : Int) then (some (true, a0_3, l0_4)) else (impl_packer_search.l0 k (l0_4.length : Int) (wrap64 ((wrap64 (a0_1 + 1)) * (wrap64 (a0_1 + 1)))) 0 l0_0 a0_1 a0_2 a0_3 l0_4)
end
theorem impl_packer_search.mono_l : ∀ k, (∀ y0 y1 y2 y3 y4, LeO (impl_packer_search.f k y0 y1 y2 y3 y4) (impl_packer_search.f (k + 1) y0 y1 y2 y3 y4)) ∧ (∀ y0 y1 y2 y3 y4 y5 y6 y7, LeO (impl_packer_search.l0 k y0 y1 y2 y3 y4 y5 y6 y7) (impl_packer_search.l0 (k + 1) y0 y1 y2 y3 y4 y5 y6 y7))
 | 0 => ⟨fun _ _ _ _ _ r h => by simp [impl_packer_search.f] at h, fun _ _ _ _ _ _ _ _ r h => by simp [impl_packer_search.l0] at h⟩
 | k + 1 => by
  obtain ⟨ih0, ih1⟩ := impl_packer_search.mono_l k
  refine ⟨?_, ?_⟩
  ·intro y0 y1 y2 y3 y4
   unfold impl_packer_search.f
   repeat' first
   | (with_reducible exact ih0 _ _ _ _ _)
   | (with_reducible exact ih1 _ _ _ _ _ _ _ _)
   | (with_reducible exact impl_isApart.mono _ _ _)
   | (with_reducible exact LeO.refl _)
   | (with_reducible exact LeO.none _)
   | (with_reducible refine LeO.ite ?_ ?_)
   | (with_reducible refine LeO.bind ?_ (fun _ => ?_))
   | exact impl_isApart.mono _ _ _
   | exact LeO.none _
   | refine LeO.ite ?_ ?_
   | refine LeO.bind ?_ (fun _ => ?_)
  ·intro y0 y1 y2 y3 y4 y5 y6 y7
   unfold impl_packer_search.l0
   repeat' first
   | (with_reducible exact ih0 _ _ _ _ _)
   | (with_reducible exact ih1 _ _ _ _ _ _ _ _)
   | (with_reducible exact impl_isApart.mono _ _ _)
   | (with_reducible exact LeO.refl _)
   | (with_reducible exact LeO.none _)
   | (with_reducible refine LeO.ite ?_ ?_)
   | (with_reducible refine LeO.bind ?_ (fun _ => ?_))
   | exact impl_isApart.mono _ _ _
   | exact LeO.none _
   | refine LeO.ite ?_ ?_
   | refine LeO.bind ?_ (fun _ => ?_)
theorem impl_packer_search.mono : ∀ a0 a1 a2 a3 a4 k, LeO (impl_packer_search.f k a0 a1 a2 a3 a4) (impl_packer_search.f (k + 1) a0 a1 a2 a3 a4) := by
 intro a0 a1 a2 a3 a4 k
 obtain ⟨ih0, ih1⟩ := impl_packer_search.mono_l k
 exact ih0 a0 a1 a2 a3 a4
def impl_packer_search.T4 : Bool × List (List Nat × List Nat) := (true, [([], []), ([0], [0]), ([1], [1]), ([2], [2]), ([3], [3]), ([], []), ([5], [5]), ([6], [6]), ([7], [7]), ([8], [8]), ([4, 9], [4, 9]), ([], [])])
def impl_packer_search.B4 : List Nat := [0, 1, 3, 7, 15, 0, 32, 96, 224, 480, 1023, 0]
theorem impl_packer_search.tab4 : rtab .any (opsOf Try.f46 4) = impl_packer_search.T4 := by kernel_rfl
theorem impl_packer_search.bits4 : waitsOk impl_packer_search.T4.2 impl_packer_search.B4 = true := by kernel_rfl
def impl_packer_search.T7 : Bool × List (List Nat × List Nat) := (true, [([], []), ([0], [0]), ([1], [1]), ([2], [2]), ([], []), ([4], [4]), ([5], [5]), ([6], [6]), ([3, 7], [3, 7])])
def impl_packer_search.B7 : List Nat := [0, 1, 3, 7, 0, 16, 48, 112, 255]
theorem impl_packer_search.tab7 : rtab .any (opsOf Try.f46 7) = impl_packer_search.T7 := by kernel_rfl
theorem impl_packer_search.bits7 : waitsOk impl_packer_search.T7.2 impl_packer_search.B7 = true := by kernel_rfl
def impl_packer_search.T11 : Bool × List (List Nat × List Nat) := (true, [([], []), ([], []), ([1], [1]), ([2], [2]), ([3], [3]), ([], []), ([4, 5], [4, 5]), ([], []), ([], []), ([8], [8]), ([9], [9]), ([10], [10]), ([11], [11]), ([7, 12], [7, 12]), ([], []), ([], []), ([15], [15]), ([16], [16]), ([17], [17]), ([18], [18]), ([14, 19], [14, 19]), ([13, 20], [13, 20]), ([21], [21]), ([6, 22], [6, 22]), ([0, 0, 1, 2, 3, 4, 5, 6, 7, 8, 9, 10, 11, 12, 13, 14, 15, 16, 17, 18, 19, 20, 21, 22, 23], [0]), ([24, 0, 1, 2, 3, 4, 5, 6, 7, 8, 9, 10, 11, 12, 13, 14, 15, 16, 17, 18, 19, 20, 21, 22, 23], [24]), ([25, 23, 23, 0, 1, 2, 3, 4, 5, 6, 7, 8, 9, 10, 11, 12, 13, 14, 15, 16, 17, 18, 19, 20, 21, 22, 23], [23, 25])])
def impl_packer_search.B11 : List Nat := [0, 0, 2, 6, 14, 0, 62, 0, 0, 256, 768, 1792, 3840, 8064, 0, 0, 32768, 98304, 229376, 491520, 1032192, 2097024, 4194176, 8388606, 16777215, 33554431, 67108863]
theorem impl_packer_search.tab11 : rtab .any (opsOf Try.f46 11) = impl_packer_search.T11 := by kernel_rfl
theorem impl_packer_search.bits11 : waitsOk impl_packer_search.T11.2 impl_packer_search.B11 = true := by kernel_rfl
def impl_packer_search.T12 : Bool × List (List Nat × List Nat) := (true, [([], []), ([0], [0]), ([1], [1]), ([2], [2]), ([], []), ([4], [4]), ([5], [5]), ([6], [6]), ([3, 7], [3, 7]), ([8, 8], [8]), ([9], [9]), ([10, 9, 9], [9, 10]), ([9, 11], [9, 11])])
def impl_packer_search.B12 : List Nat := [0, 1, 3, 7, 0, 16, 48, 112, 255, 511, 1023, 2047, 4095]
theorem impl_packer_search.tab12 : rtab .any (opsOf Try.f46 12) = impl_packer_search.T12 := by kernel_rfl
theorem impl_packer_search.bits12 : waitsOk impl_packer_search.T12.2 impl_packer_search.B12 = true := by kernel_rfl
set_option maxHeartbeats 8000000 in
set_option maxRecDepth 100000 in
theorem impl_packer_search.calls (k : Nat) : ∀ (g0 : Nat) (A0_0 : Option Addr) (c0_0 : Nat) (l0_0 : List (List Int)) (a0_1 : Int) (a0_2 : Int) (a0_3 : Int) (P0_4_ : Nat → Prop) (u9000_ : Value) (l0_4 : List (S37)) (r1 : Bool) (r2 : Int) (r3 : List (S37)) (w0 w : World) (hB : Below w0.heap.size w0 w) (hb0 : w.heap[g0]? = some (.cells #[.slice A0_0 l0_0.length c0_0, .int .i64 a0_1, .int .i64 a0_2, .int .i64 a0_3, u9000_] 85 (0, 0))) (hG0 : w0.heap.size ≤ g0) (hr0_0 : ∀ W_, Kept w W_ (fun k_ => (P0_4_ k_) ∨ k_ = g0) → Kd.C (Kd.slice 2 (Kd.int .i64)) W_ A0_0 l0_0.length l0_0) (hc0_0 : l0_0.length ≤ c0_0) (ho0_4 : Kd.R k37 37 w w0.heap.size P0_4_ u9000_ l0_4) (h : impl_packer_search.f k l0_0 a0_1 a0_2 a0_3 l0_4 = some (r1, r2, r3)),
  Calls Try.prog 46 #[.pointer (some ⟨g0, 0, none⟩)] w fun e w' => ∃ v2_ : Value, e = .returned (.bool r1) ∧ w'.heap[g0]? = some (.cells #[.slice A0_0 l0_0.length c0_0, .int .i64 a0_1, .int .i64 a0_2, .int .i64 r2, v2_] 85 (0, 0)) ∧ Kd.R k37 37 w' w0.heap.size (fun k_ => (P0_4_ k_ ∨ w.heap.size ≤ k_)) v2_ r3 ∧ Below w0.heap.size w0 w' ∧ Kept w w' (fun k_ => (P0_4_ k_) ∨ k_ = g0) := by
 induction k using Nat.strongRecOn with
 | _ k ih =>
 intro g0 A0_0 c0_0 l0_0 a0_1 a0_2 a0_3 P0_4_ u9000_ l0_4 r1 r2 r3 w0 w hB hb0 hG0 hr0_0 hc0_0 ho0_4 h
 cases k with
 | zero => exact absurd h (by simp [impl_packer_search.f])
 | succ k =>
 simp only [impl_packer_search.f] at h
 have hu37 := Try.underlying37
 have HR0_0 := Aside0.mk hr0_0
 have HC0_0 := Aside0.mk hc0_0
 clear hr0_0 hc0_0
 have HO0_4 := Aside0.mk (show Kd.R k37 37 w w0.heap.size (fun k_ => (P0_4_ k_ ∨ w.heap.size ≤ k_)) u9000_ l0_4 from Kd.R_mono ho0_4 (fun k_ hk => (.inl hk)))
 have BK0 := Aside0.mk hb0
 clear hb0
 have GE0 := Aside0.mk hG0
 clear hG0
 have HK := Aside0.mk (Kept.refl w (fun k_ => (P0_4_ k_) ∨ k_ = g0))
 have HW0 := Aside0.mk hB.size
 have HB := Aside0.mk hB
 clear hB
 have H : (if (l0_4.length : Int) = (l0_0.length : Int) then (some (true, a0_3, l0_4)) else (impl_packer_search.l0 k (l0_4.length : Int) (wrap64 ((wrap64 (a0_1 + 1)) * (wrap64 (a0_1 + 1)))) 0 l0_0 a0_1 a0_2 a0_3 l0_4)) = some (r1, r2, r3) := h
 clear h
 by_cases c2 : (l0_4.length : Int) = (l0_0.length : Int)
 ·rw [if_pos c2] at H
  have c2b0 : ((l0_4.length : Int) == (l0_0.length : Int)) = true := beq_iff_eq.mpr c2
  have c2b1 : ((l0_4.length : Int) != (l0_0.length : Int)) = false := bne_eq_false_iff_eq.mpr c2
  have c2b2 : (l0_4.length == l0_0.length) = true := by first | simpa using c2 | (simp at c2 ⊢; omega)
  clear c2
  simp only [Option.some.injEq, Prod.mk.injEq] at H
  obtain ⟨rfl, rfl, rfl⟩ := H
  obtain ⟨hcz3_0, hcz3_1, hcz3_2, hcz3_3, hcz3_4, hfz3_0, hfz3_1, hfz3_2, hfz3_3, hfz3_4⟩ := cz5_ BK0.out
  obtain ⟨Ao4, co4, eo4⟩ := Kd.R_slice HO0_4.out
  subst eo4
  go_enter Try.func46, Try.ntmps46
  go_wp2
  go_ret
  exact ⟨(.slice Ao4 l0_4.length co4), by first | rfl | (simp [errW_none, errW_some] <;> rfl) | (simp [*, errW_none, errW_some] <;> rfl), by (with_reducible repeat (first | refine blk_drewN ?_ _ | refine blk_drew ?_ | refine blk_alloc ?_ _)); exact BK0.out, ra_ HO0_4.out, by repeat (first | (with_reducible first | exact HB.out | apply below_alloc | apply pw_below_drewN | apply below_drew1 | refine below_set ?_ GE0.out) | exact HB.out), by repeat (first | (with_reducible first | exact HK.out | apply Kept.alloc | apply Kept.drewN | apply Kept.drew | refine Kept.setCell ?_ (.inl (.inr rfl)) _) | exact HK.out)⟩
 ·rw [if_neg c2] at H
  have c2b0 : ((l0_4.length : Int) == (l0_0.length : Int)) = false := beq_eq_false_iff_ne.mpr c2
  have c2b1 : ((l0_4.length : Int) != (l0_0.length : Int)) = true := bne_iff_ne.mpr c2
  have c2b2 : (l0_4.length == l0_0.length) = false := by first | simpa using c2 | (simp at c2 ⊢; omega)
  have H' := Aside0.mk H
  clear H
  obtain ⟨hcz5_0, hcz5_1, hcz5_2, hcz5_3, hcz5_4, hfz5_0, hfz5_1, hfz5_2, hfz5_3, hfz5_4⟩ := cz5_ BK0.out
  obtain ⟨Ao6, co6, eo6⟩ := Kd.R_slice HO0_4.out
  subst eo6
  go_enter Try.func46, Try.ntmps46
  try go_wp2
  have n0_ := Aside0.mk (Kd.R_drew HO0_4.out)
  have n1_ := Aside0.mk (blk_drew BK0.out)
  have n2_ := Aside0.mk (Kept.drew HK.out)
  have n3_ := Aside0.mk (below_drew1 HB.out)
  clear HO0_4
  clear BK0
  clear HK
  clear HB
  have HO0_4 := n0_
  have BK0 := n1_
  have HK := n2_
  have HB := n3_
  clear n0_ n1_ n2_ n3_
  refine start_ (n := 12) (S := fun w' => w'.cell? ⟨g0, 0, none⟩ = some (.slice A0_0 l0_0.length c0_0) ∧ w'.cell? ⟨g0, 1, none⟩ = some (.int .i64 a0_1) ∧ w'.cell? ⟨g0, 2, none⟩ = some (.int .i64 a0_2) ∧ w'.cell? ⟨g0, 3, none⟩ = some (.int .i64 a0_3) ∧ w'.cell? ⟨g0, 4, none⟩ = some (.slice Ao6 l0_4.length co6)) (ds := []) (nb_ 12 0) (by kernel_rfl) rfl rfl ⟨(blk_cell BK0.out 0).trans rfl, (blk_cell BK0.out 1).trans rfl, (blk_cell BK0.out 2).trans rfl, (blk_cell BK0.out 3).trans rfl, (blk_cell BK0.out 4).trans rfl⟩ (fun hHeld => ?_); refine with_tabW impl_packer_search.tab4 impl_packer_search.bits4 (fun HT_ HW_ => ?_)
  generalize w.drew = w7 at HO0_4 BK0 HK HB hHeld ⊢
  refine puz_ 0 (some 17) (nb_ 12 1) rfl rfl (any_of HT_.out (by kernel_rfl)) ?_
  refine puz_ 1 (some 18) (nb_ 12 3) rfl rfl (any_of HT_.out (by kernel_rfl)) ?_
  refine puz_ 2 (some 19) (nb_ 12 7) rfl rfl (any_of HT_.out (by kernel_rfl)) ?_
  refine puz_ 5 (some 22) (nb_ 12 39) rfl rfl (any_of HT_.out (by kernel_rfl)) ?_
  refine puz_ 6 (some 23) (nb_ 12 103) rfl rfl (any_of HT_.out (by kernel_rfl)) ?_
  refine puz_ 7 (some 24) (nb_ 12 231) rfl rfl (any_of HT_.out (by kernel_rfl)) ?_
  refine puz_ 11 (some 28) (nb_ 12 2279) rfl rfl (any_of HT_.out (by kernel_rfl)) ?_
  refine tkz_ 3 (some 20) (nb_ 12 2287) rfl rfl (take_ofW HT_.out HW_.out (by kernel_rfl)) hHeld ?_
  refine puz_ 4 (some 21) (nb_ 12 2303) rfl rfl (any_of HT_.out (by kernel_rfl)) ?_
  refine tkz_ 8 (some 25) (nb_ 12 2559) rfl rfl (take_ofW HT_.out HW_.out (by kernel_rfl)) hHeld ?_
  refine puz_ 9 (some 26) (nb_ 12 3071) rfl rfl (any_of HT_.out (by kernel_rfl)) ?_
  refine puz_ 10 (some 27) (nb_ 12 4095) rfl rfl (any_of HT_.out (by kernel_rfl)) ?_
  refine done_ (done_of HT_.out (by kernel_rfl)) ?_
  try go_wp2
  go_loopg [28] k (fun kq v28 w' => ∃ (x28_1 : Int) (x1003_1 : Int) (x1004_1 : List (S37)) (u1004 : Value), v28 = .int .i64 x28_1 ∧ Aside0 (impl_packer_search.l0 kq (l0_4.length : Int) (wrap64 ((wrap64 (a0_1 + 1)) * (wrap64 (a0_1 + 1)))) x28_1 l0_0 a0_1 a0_2 x1003_1 x1004_1 = some (r1, r2, r3)) ∧ Aside0 (kq ≤ k) ∧ Aside0 (Kd.R k37 37 w' w0.heap.size (fun k_ => (P0_4_ k_ ∨ w.heap.size ≤ k_)) u1004 x1004_1) ∧ Aside0 (w'.heap[g0]? = some (.cells #[(.slice A0_0 l0_0.length c0_0), .int .i64 a0_1, .int .i64 a0_2, .int .i64 x1003_1, u1004] 85 (0, 0))) ∧ Aside0 (Kept w w' (fun k_ => (P0_4_ k_) ∨ k_ = g0)) ∧ Aside0 (Below w0.heap.size w0 w'))
  case atStart => exact ⟨(0), (a0_3), (l0_4), (.slice Ao6 l0_4.length co6), rs_, H', ⟨Nat.le_refl _⟩, ⟨ra_ HO0_4.out⟩, ⟨bk_ BK0.out⟩, ⟨by repeat (first | (with_reducible first | exact HK.out | apply Kept.alloc | apply Kept.drewN | apply Kept.drew | refine Kept.setCell ?_ (.inl (.inr rfl)) _) | exact HK.out)⟩, ⟨bl1_ HB.out GE0.out⟩⟩
  case round =>
   clear H'
   try clear c2
   try clear c2b0
   try clear c2b1
   try clear c2b2
   try clear p2
   try clear c4
   try clear p6
   try clear hcz3_0
   try clear hcz3_1
   try clear hcz3_2
   try clear hcz3_3
   try clear hcz3_4
   try clear hcz5_0
   try clear hcz5_1
   try clear hcz5_2
   try clear hcz5_3
   try clear hcz5_4
   try clear hfz3_0
   try clear hfz3_1
   try clear hfz3_2
   try clear hfz3_3
   try clear hfz3_4
   try clear hfz5_0
   try clear hfz5_1
   try clear hfz5_2
   try clear hfz5_3
   try clear hfz5_4
   obtain ⟨x28_1, x1003_1, x1004_1, u1004, rfl, HA, HK1, HO_1004, BK0, HK, HB⟩ := hrel
   cases gk with
   | zero => exact absurd HA.out (by simp [impl_packer_search.l0])
   | succ k1 =>
    have H := HA.out
    clear HA
    simp only [impl_packer_search.l0] at H
    by_cases c8 : x28_1 < (wrap64 ((wrap64 (a0_1 + 1)) * (wrap64 (a0_1 + 1))))
    ·rw [if_pos c8] at H
     have c8b0 := decide_eq_true c8
     clear c8
     by_cases c9 : x1003_1 = a0_2
     ·rw [if_pos c9] at H
      have c9b0 : (x1003_1 == a0_2) = true := beq_iff_eq.mpr c9
      have c9b1 : (x1003_1 != a0_2) = false := bne_eq_false_iff_eq.mpr c9
      clear c9
      simp only [Option.some.injEq, Prod.mk.injEq] at H
      obtain ⟨rfl, rfl, rfl⟩ := H
      try go_wp2
      have n0_ := Aside0.mk (Kd.R_drew HO_1004.out)
      have n1_ := Aside0.mk (blk_drew BK0.out)
      have n2_ := Aside0.mk (Kept.drew HK.out)
      have n3_ := Aside0.mk (below_drew1 HB.out)
      clear HO_1004
      clear BK0
      clear HK
      clear HB
      have HO_1004 := n0_
      have BK0 := n1_
      have HK := n2_
      have HB := n3_
      clear n0_ n1_ n2_ n3_
      refine start_ (n := 9) (S := fun w' => w'.cell? ⟨g0, 0, none⟩ = some (.slice A0_0 l0_0.length c0_0) ∧ w'.cell? ⟨g0, 1, none⟩ = some (.int .i64 a0_1) ∧ w'.cell? ⟨g0, 2, none⟩ = some (.int .i64 a0_2) ∧ w'.cell? ⟨g0, 3, none⟩ = some (.int .i64 x1003_1) ∧ w'.cell? ⟨g0, 4, none⟩ = some (u1004)) (ds := []) (nb_ 9 0) (by kernel_rfl) rfl rfl ⟨(blk_cell BK0.out 0).trans rfl, (blk_cell BK0.out 1).trans rfl, (blk_cell BK0.out 2).trans rfl, (blk_cell BK0.out 3).trans rfl, (blk_cell BK0.out 4).trans rfl⟩ (fun hHeld => ?_); refine with_tabW impl_packer_search.tab7 impl_packer_search.bits7 (fun HT_ HW_ => ?_)
      generalize wr.drew = w10 at HO_1004 BK0 HK HB hHeld ⊢
      refine puz_ 0 (some 31) (nb_ 9 1) rfl rfl (any_of HT_.out (by kernel_rfl)) ?_
      refine puz_ 1 (some 32) (nb_ 9 3) rfl rfl (any_of HT_.out (by kernel_rfl)) ?_
      refine puz_ 2 (some 33) (nb_ 9 7) rfl rfl (any_of HT_.out (by kernel_rfl)) ?_
      refine puz_ 4 (some 35) (nb_ 9 23) rfl rfl (any_of HT_.out (by kernel_rfl)) ?_
      refine puz_ 5 (some 36) (nb_ 9 55) rfl rfl (any_of HT_.out (by kernel_rfl)) ?_
      refine puz_ 6 (some 37) (nb_ 9 119) rfl rfl (any_of HT_.out (by kernel_rfl)) ?_
      refine tkz_ 3 (some 34) (nb_ 9 127) rfl rfl (take_ofW HT_.out HW_.out (by kernel_rfl)) hHeld ?_
      refine tkz_ 7 (some 38) (nb_ 9 255) rfl rfl (take_ofW HT_.out HW_.out (by kernel_rfl)) hHeld ?_
      refine puz_ 8 (some 39) (nb_ 9 511) rfl rfl (any_of HT_.out (by kernel_rfl)) ?_
      refine done_ (done_of HT_.out (by kernel_rfl)) ?_
      obtain ⟨hcz11_0, hcz11_1, hcz11_2, hcz11_3, hcz11_4, hfz11_0, hfz11_1, hfz11_2, hfz11_3, hfz11_4⟩ := cz5_ BK0.out
      try go_wp2
      go_ret
      exact ⟨(u1004), by first | rfl | (simp [errW_none, errW_some] <;> rfl) | (simp [*, errW_none, errW_some] <;> rfl), by (with_reducible repeat (first | refine blk_drewN ?_ _ | refine blk_drew ?_ | refine blk_alloc ?_ _)); refine blk_put (cs := #[.slice A0_0 l0_0.length c0_0, .int .i64 a0_1, .int .i64 a0_2, .int .i64 x1003_1, u1004]) ?_ 3 _ rfl; (with_reducible repeat (first | refine blk_drewN ?_ _ | refine blk_drew ?_ | refine blk_alloc ?_ _)); exact BK0.out, by (with_reducible repeat (first | apply Kd.R_alloc | apply Kd.R_drewN | apply Kd.R_drew)); exact Kd.R_mono (Kd.R_far (p := ⟨g0, 3, none⟩) (Kd.R_types HO_1004.out BK0.out (by decide)) (fun _ hk => hk.2) (.int .i64 (wrap64 (x1003_1 + 1)))) (fun _ hk => hk.1), by repeat (first | (with_reducible first | exact HB.out | apply below_alloc | apply pw_below_drewN | apply below_drew1 | refine below_set ?_ GE0.out) | exact HB.out), by repeat (first | (with_reducible first | exact HK.out | apply Kept.alloc | apply Kept.drewN | apply Kept.drew | refine Kept.setCell ?_ (.inl (.inr rfl)) _) | exact HK.out)⟩
     ·rw [if_neg c9] at H
      have c9b0 : (x1003_1 == a0_2) = false := beq_eq_false_iff_ne.mpr c9
      have c9b1 : (x1003_1 != a0_2) = true := bne_iff_ne.mpr c9
      by_cases c12 : 0 ≤ (l0_4.length : Int)
      rotate_left
      ·exact nope_ c12 H
      rw [if_pos c12] at H
      have c12b0 := eq_true c12
      have c12b1 := decide_eq_true c12
      clear c12
      by_cases c13 : (l0_4.length : Int) ≤ (x1004_1.length : Int)
      rotate_left
      ·exact nope_ c13 H
      rw [if_pos c13] at H
      have c13b0 := eq_true c13
      have c13b1 := decide_eq_true c13
      clear c13
      obtain ⟨y208, hy208⟩ : ∃ y_ : List (S37), y_ = (x1004_1.take ((l0_4.length : Int) : Int).toNat) := ⟨_, rfl⟩
      replace H : (if (wrap64 (a0_1 + 1)) = 0 then (none) else (if y208.length < 8796093022208 then ((some (y208 ++ [(⟨wrap64 (Int.tdiv x28_1 (wrap64 (a0_1 + 1))), Int.tmod x28_1 (wrap64 (a0_1 + 1))⟩ : S37)] : List (S37))).bind fun y211 => ((impl_isApart.f k1 l0_0 y211).bind fun t214 => (if t214 = true then ((impl_packer_search.f k1 l0_0 a0_1 a0_2 (wrap64 (x1003_1 + 1)) y211).bind fun bt215 => (if bt215.1 = true then (some (true, bt215.2.1, bt215.2.2)) else (impl_packer_search.l0 k1 (l0_4.length : Int) (wrap64 ((wrap64 (a0_1 + 1)) * (wrap64 (a0_1 + 1)))) (wrap64 (x28_1 + 1)) l0_0 a0_1 a0_2 bt215.2.1 bt215.2.2))) else (impl_packer_search.l0 k1 (l0_4.length : Int) (wrap64 ((wrap64 (a0_1 + 1)) * (wrap64 (a0_1 + 1)))) (wrap64 (x28_1 + 1)) l0_0 a0_1 a0_2 (wrap64 (x1003_1 + 1)) y211)))) else (none))) = some (r1, r2, r3) := yh_ H hy208
      have Ny208 := Aside0.mk hy208
      clear hy208
      by_cases c14 : (wrap64 (a0_1 + 1)) = 0
      ·rw [if_pos c14] at H
       exact absurd H (by simp)
      ·rw [if_neg c14] at H
       have c14b0 : ((wrap64 (a0_1 + 1)) == 0) = false := beq_eq_false_iff_ne.mpr c14
       have c14b1 : ((wrap64 (a0_1 + 1)) != 0) = true := bne_iff_ne.mpr c14
       by_cases c15 : y208.length < 8796093022208
       rotate_left
       ·exact nope_ c15 H
       rw [if_pos c15] at H
       have LMc15 := Aside0.mk c15
       clear c15
       obtain ⟨y211, hy211⟩ : ∃ y_ : List (S37), y_ = (y208 ++ [(⟨wrap64 (Int.tdiv x28_1 (wrap64 (a0_1 + 1))), Int.tmod x28_1 (wrap64 (a0_1 + 1))⟩ : S37)]) := ⟨_, rfl⟩
       replace H : ((impl_isApart.f k1 l0_0 y211).bind fun t214 => (if t214 = true then ((impl_packer_search.f k1 l0_0 a0_1 a0_2 (wrap64 (x1003_1 + 1)) y211).bind fun bt215 => (if bt215.1 = true then (some (true, bt215.2.1, bt215.2.2)) else (impl_packer_search.l0 k1 (l0_4.length : Int) (wrap64 ((wrap64 (a0_1 + 1)) * (wrap64 (a0_1 + 1)))) (wrap64 (x28_1 + 1)) l0_0 a0_1 a0_2 bt215.2.1 bt215.2.2))) else (impl_packer_search.l0 k1 (l0_4.length : Int) (wrap64 ((wrap64 (a0_1 + 1)) * (wrap64 (a0_1 + 1)))) (wrap64 (x28_1 + 1)) l0_0 a0_1 a0_2 (wrap64 (x1003_1 + 1)) y211))) = some (r1, r2, r3) := yh_ H hy211
       have Ny211 := Aside0.mk hy211
       clear hy211
       replace H := Option.bind_eq_some_iff.mp H
       obtain ⟨t214, A160, H⟩ := H
       replace H : (if t214 = true then ((impl_packer_search.f k1 l0_0 a0_1 a0_2 (wrap64 (x1003_1 + 1)) y211).bind fun bt215 => (if bt215.1 = true then (some (true, bt215.2.1, bt215.2.2)) else (impl_packer_search.l0 k1 (l0_4.length : Int) (wrap64 ((wrap64 (a0_1 + 1)) * (wrap64 (a0_1 + 1)))) (wrap64 (x28_1 + 1)) l0_0 a0_1 a0_2 bt215.2.1 bt215.2.2))) else (impl_packer_search.l0 k1 (l0_4.length : Int) (wrap64 ((wrap64 (a0_1 + 1)) * (wrap64 (a0_1 + 1)))) (wrap64 (x28_1 + 1)) l0_0 a0_1 a0_2 (wrap64 (x1003_1 + 1)) y211)) = some (r1, r2, r3) := H
       have A16 := Aside0.mk A160
       clear A160
       by_cases c17 : t214 = true
       ·subst c17
        have H1 : ((impl_packer_search.f k1 l0_0 a0_1 a0_2 (wrap64 (x1003_1 + 1)) y211).bind fun bt215 => (if bt215.1 = true then (some (true, bt215.2.1, bt215.2.2)) else (impl_packer_search.l0 k1 (l0_4.length : Int) (wrap64 ((wrap64 (a0_1 + 1)) * (wrap64 (a0_1 + 1)))) (wrap64 (x28_1 + 1)) l0_0 a0_1 a0_2 bt215.2.1 bt215.2.2))) = some (r1, r2, r3) := by rw [if_pos rfl] at H; exact H
        clear H
        have H := H1
        clear H1
        replace H := Option.bind_eq_some_iff.mp H
        obtain ⟨⟨t215, t216, t217⟩, A180, H⟩ := H
        replace H : (if t215 = true then (some (true, t216, t217)) else (impl_packer_search.l0 k1 (l0_4.length : Int) (wrap64 ((wrap64 (a0_1 + 1)) * (wrap64 (a0_1 + 1)))) (wrap64 (x28_1 + 1)) l0_0 a0_1 a0_2 t216 t217)) = some (r1, r2, r3) := H
        have A18 := Aside0.mk A180
        clear A180
        by_cases c19 : t215 = true
        ·subst c19
         have H1 : (some (true, t216, t217)) = some (r1, r2, r3) := by rw [if_pos rfl] at H; exact H
         clear H
         have H := H1
         clear H1
         simp only [Option.some.injEq, Prod.mk.injEq] at H
         obtain ⟨rfl, rfl, rfl⟩ := H
         try go_wp2
         have n0_ := Aside0.mk (Kd.R_drew HO_1004.out)
         have n1_ := Aside0.mk (blk_drew BK0.out)
         have n2_ := Aside0.mk (Kept.drew HK.out)
         have n3_ := Aside0.mk (below_drew1 HB.out)
         clear HO_1004
         clear BK0
         clear HK
         clear HB
         have HO_1004 := n0_
         have BK0 := n1_
         have HK := n2_
         have HB := n3_
         clear n0_ n1_ n2_ n3_
         refine start_ (n := 9) (S := fun w' => w'.cell? ⟨g0, 0, none⟩ = some (.slice A0_0 l0_0.length c0_0) ∧ w'.cell? ⟨g0, 1, none⟩ = some (.int .i64 a0_1) ∧ w'.cell? ⟨g0, 2, none⟩ = some (.int .i64 a0_2) ∧ w'.cell? ⟨g0, 3, none⟩ = some (.int .i64 x1003_1) ∧ w'.cell? ⟨g0, 4, none⟩ = some (u1004)) (ds := []) (nb_ 9 0) (by kernel_rfl) rfl rfl ⟨(blk_cell BK0.out 0).trans rfl, (blk_cell BK0.out 1).trans rfl, (blk_cell BK0.out 2).trans rfl, (blk_cell BK0.out 3).trans rfl, (blk_cell BK0.out 4).trans rfl⟩ (fun hHeld => ?_); refine with_tabW impl_packer_search.tab7 impl_packer_search.bits7 (fun HT_ HW_ => ?_)
         generalize wr.drew = w20 at HO_1004 BK0 HK HB hHeld ⊢
         refine puz_ 0 (some 31) (nb_ 9 1) rfl rfl (any_of HT_.out (by kernel_rfl)) ?_
         refine puz_ 1 (some 32) (nb_ 9 3) rfl rfl (any_of HT_.out (by kernel_rfl)) ?_
         refine puz_ 2 (some 33) (nb_ 9 7) rfl rfl (any_of HT_.out (by kernel_rfl)) ?_
         refine puz_ 4 (some 35) (nb_ 9 23) rfl rfl (any_of HT_.out (by kernel_rfl)) ?_
         refine puz_ 5 (some 36) (nb_ 9 55) rfl rfl (any_of HT_.out (by kernel_rfl)) ?_
         refine puz_ 6 (some 37) (nb_ 9 119) rfl rfl (any_of HT_.out (by kernel_rfl)) ?_
         refine tkz_ 3 (some 34) (nb_ 9 127) rfl rfl (take_ofW HT_.out HW_.out (by kernel_rfl)) hHeld ?_
         refine tkz_ 7 (some 38) (nb_ 9 255) rfl rfl (take_ofW HT_.out HW_.out (by kernel_rfl)) hHeld ?_
         refine puz_ 8 (some 39) (nb_ 9 511) rfl rfl (any_of HT_.out (by kernel_rfl)) ?_
         refine done_ (done_of HT_.out (by kernel_rfl)) ?_
         obtain ⟨hcz21_0, hcz21_1, hcz21_2, hcz21_3, hcz21_4, hfz21_0, hfz21_1, hfz21_2, hfz21_3, hfz21_4⟩ := cz5_ BK0.out
         try go_wp2
         have n0_ : Aside0 (Kd.R k37 37 (w20.setCell ⟨g0, 3, none⟩ (.int .i64 (wrap64 (x1003_1 + 1)))) w0.heap.size (fun k_ => (P0_4_ k_ ∨ w.heap.size ≤ k_)) u1004 x1004_1) := ⟨by (with_reducible repeat (first | apply Kd.R_alloc | apply Kd.R_drewN | apply Kd.R_drew)); exact Kd.R_mono (Kd.R_far (p := ⟨g0, 3, none⟩) (Kd.R_types HO_1004.out BK0.out (by decide)) (fun _ hk => hk.2) (.int .i64 (wrap64 (x1003_1 + 1)))) (fun _ hk => hk.1)⟩
         have n1_ : Aside0 ((w20.setCell ⟨g0, 3, none⟩ (.int .i64 (wrap64 (x1003_1 + 1)))).heap[g0]? = some (.cells #[.slice A0_0 l0_0.length c0_0, .int .i64 a0_1, .int .i64 a0_2, .int .i64 (wrap64 (x1003_1 + 1)), u1004] 85 (0, 0))) := ⟨by (with_reducible repeat (first | refine blk_drewN ?_ _ | refine blk_drew ?_ | refine blk_alloc ?_ _)); refine blk_put (cs := #[.slice A0_0 l0_0.length c0_0, .int .i64 a0_1, .int .i64 a0_2, .int .i64 x1003_1, u1004]) ?_ 3 _ rfl; (with_reducible repeat (first | refine blk_drewN ?_ _ | refine blk_drew ?_ | refine blk_alloc ?_ _)); exact BK0.out⟩
         have n2_ : Aside0 (Kept w (w20.setCell ⟨g0, 3, none⟩ (.int .i64 (wrap64 (x1003_1 + 1)))) (fun k_ => (P0_4_ k_) ∨ k_ = g0)) := ⟨by repeat (first | (with_reducible first | exact HK.out | apply Kept.alloc | apply Kept.drewN | apply Kept.drew | refine Kept.setCell ?_ (.inl (.inr rfl)) _) | exact HK.out)⟩
         have n3_ : Aside0 (Below w0.heap.size w0 (w20.setCell ⟨g0, 3, none⟩ (.int .i64 (wrap64 (x1003_1 + 1))))) := ⟨bl1_ HB.out GE0.out⟩
         (try clear HO_1004)
         (try clear BK0)
         (try clear HK)
         (try clear HB)
         generalize (w20.setCell ⟨g0, 3, none⟩ (.int .i64 (wrap64 (x1003_1 + 1)))) = w22 at n0_ n1_ n2_ n3_ ⊢
         have HO_1004 := n0_
         have BK0 := n1_
         have HK := n2_
         have HB := n3_
         clear n0_ n1_ n2_ n3_
         have n0_ := Aside0.mk (Kd.R_drew HO_1004.out)
         have n1_ := Aside0.mk (blk_drew BK0.out)
         have n2_ := Aside0.mk (Kept.drew HK.out)
         have n3_ := Aside0.mk (below_drew1 HB.out)
         clear HO_1004
         clear BK0
         clear HK
         clear HB
         have HO_1004 := n0_
         have BK0 := n1_
         have HK := n2_
         have HB := n3_
         clear n0_ n1_ n2_ n3_
         obtain ⟨Ao24, co24, eo24⟩ := Kd.R_slice HO_1004.out
         (first | subst eo24 | (injection eo24 with f1_ f2_ f3_; have f4_ := f1_.symm; have f5_ := f3_.symm; clear f1_ f2_ f3_; subst f4_; subst f5_))
         have q25 : ((l0_4.length : Int) : Int) ≤ ((x1004_1.length : Int) : Int) := od_
         obtain ⟨i025, hi025, _, hsz25, _⟩ := info_parts info37
         have hcut25 := cut_to (P := Try.prog) 29 37 .i64 Try.underlying29 hi025 Ao24 x1004_1.length co24 (l0_4.length : Int) (od_) q25 (Kd.R_reads' HO_1004.out).2.1
         have hr25 := Kd.R_take (m := ((l0_4.length : Int) : Int).toNat) HO_1004.out (by omega)
         have hy25 : y208.length = ((l0_4.length : Int) : Int).toNat := (by rw [Ny208.out, List.length_take]; omega)
         rw [← Ny208.out] at hr25
         rw [← hy25] at hr25 hcut25
         clear hy25 hi025 hsz25 HO_1004
         have HO210 := Aside0.mk hr25
         clear hr25
         replace q25 := eq_true q25
         refine start_ (n := 27) (S := fun w' => w'.cell? ⟨g0, 0, none⟩ = some (.slice A0_0 l0_0.length c0_0) ∧ w'.cell? ⟨g0, 1, none⟩ = some (.int .i64 a0_1) ∧ w'.cell? ⟨g0, 2, none⟩ = some (.int .i64 a0_2) ∧ w'.cell? ⟨g0, 3, none⟩ = some (.int .i64 (wrap64 (x1003_1 + 1))) ∧ w'.cell? ⟨g0, 4, none⟩ = some (.slice Ao24 x1004_1.length co24)) (ds := [26]) (nb_ 27 0) (by kernel_rfl) rfl rfl ⟨(blk_cell BK0.out 0).trans rfl, (blk_cell BK0.out 1).trans rfl, (blk_cell BK0.out 2).trans rfl, (blk_cell BK0.out 3).trans rfl, (blk_cell BK0.out 4).trans rfl⟩ (fun hHeld => ?_); refine with_tabW impl_packer_search.tab11 impl_packer_search.bits11 (fun HT_ HW_ => ?_)
         generalize w22.drew = w23 at BK0 HK HB HO210 hHeld ⊢
         refine puz_ 0 (some 54) (nb_ 27 1) rfl rfl (any_of HT_.out (by kernel_rfl)) ?_
         refine puz_ 1 (some 55) (nb_ 27 3) rfl rfl (any_of HT_.out (by kernel_rfl)) ?_
         refine puz_ 2 (some 56) (nb_ 27 7) rfl rfl (any_of HT_.out (by kernel_rfl)) ?_
         refine puz_ 3 (some 57) (nb_ 27 15) rfl rfl (any_of HT_.out (by kernel_rfl)) ?_
         refine puz_ 5 (some 59) (nb_ 27 47) rfl rfl (any_of HT_.out (by kernel_rfl)) ?_
         refine puz_ 7 (some 61) (nb_ 27 175) rfl rfl (any_of HT_.out (by kernel_rfl)) ?_
         refine puz_ 8 (some 62) (nb_ 27 431) rfl rfl (any_of HT_.out (by kernel_rfl)) ?_
         refine puz_ 9 (some 63) (nb_ 27 943) rfl rfl (any_of HT_.out (by kernel_rfl)) ?_
         refine puz_ 10 (some 64) (nb_ 27 1967) rfl rfl (any_of HT_.out (by kernel_rfl)) ?_
         refine puz_ 14 (some 68) (nb_ 27 18351) rfl rfl (any_of HT_.out (by kernel_rfl)) ?_
         refine puz_ 15 (some 69) (nb_ 27 51119) rfl rfl (any_of HT_.out (by kernel_rfl)) ?_
         refine puz_ 16 (some 70) (nb_ 27 116655) rfl rfl (any_of HT_.out (by kernel_rfl)) ?_
         refine puz_ 17 (some 71) (nb_ 27 247727) rfl rfl (any_of HT_.out (by kernel_rfl)) ?_
         refine tkz_ 4 (some 58) (nb_ 27 247743) rfl rfl (take_ofW HT_.out HW_.out (by kernel_rfl)) hHeld ?_
         refine puz_ 6 (some 60) (nb_ 27 247807) rfl rfl (any_of HT_.out (by kernel_rfl)) ?_
         refine tkz_ 11 (some 65) (nb_ 27 249855) rfl rfl (take_ofW HT_.out HW_.out (by kernel_rfl)) hHeld ?_
         refine puz_ 12 (some 66) (nb_ 27 253951) rfl rfl (any_of HT_.out (by kernel_rfl)) ?_
         refine puz_ 13 (some 67) (nb_ 27 262143) rfl rfl (any_of HT_.out (by kernel_rfl)) ?_
         refine tkz_ 18 (some 72) (nb_ 27 524287) rfl rfl (take_ofW HT_.out HW_.out (by kernel_rfl)) hHeld ?_
         refine puz_ 19 (some 73) (nb_ 27 1048575) rfl rfl (any_of HT_.out (by kernel_rfl)) ?_
         refine puz_ 20 (some 74) (nb_ 27 2097151) rfl rfl (any_of HT_.out (by kernel_rfl)) ?_
         refine puz_ 21 (some 75) (nb_ 27 4194303) rfl rfl (any_of HT_.out (by kernel_rfl)) ?_
         refine one_ (i := 22) (N := some 76) (nb_ 27 8388607) rfl rfl (one_of HT_.out (by kernel_rfl)) (by decide) (fun K hK => ?_)
         refine value_ (w1 := ?_) (v := ?_) (by rfl) rfl ?_ ?_
         rotate_left 2
         ·go_simp
          constructor
          ·rfl
          ·rfl
         refine hK.out _ _ ⟨(blk_cell (blk_alloc BK0.out _) 0).trans rfl, (blk_cell (blk_alloc BK0.out _) 1).trans rfl, (blk_cell (blk_alloc BK0.out _) 2).trans rfl, (blk_cell (blk_alloc BK0.out _) 3).trans rfl, (blk_cell (blk_alloc BK0.out _) 4).trans rfl⟩ (fun hHeld => ?_)
         clear hK K
         refine norm_ (a' := ?_) ?_ ?_
         rotate_left
         ·show Act.put _ (some 76) _ = _
          simp only [Act.put, List.setIfInBounds_toArray, List.set_cons_zero, List.set_cons_succ, i64_w, i32_w]
          rfl
         refine one_ (i := 23) (N := some 77) (nb_ 27 16777215) rfl rfl (one_of HT_.out (by kernel_rfl)) (by decide) (fun K hK => ?_)
         refine Kd.R_append_step k37 (w0 := w0) w0.heap.size (by rfl) (.tmp 60) (.tmp 76) 29 37 (.agg #[(.int .i64 0), (.int .i64 0)]) 16 rfl Try.underlying29 info37 rfl (by decide) (by omega) (.slice Ao24 y208.length co24) y208 (⟨wrap64 (Int.tdiv x28_1 (wrap64 (a0_1 + 1))), Int.tmod x28_1 (wrap64 (a0_1 + 1))⟩ : S37) [.int .i64 (wrap64 (Int.tdiv x28_1 (wrap64 (a0_1 + 1)))), .int .i64 (Int.tmod x28_1 (wrap64 (a0_1 + 1)))] (fun k_ => (P0_4_ k_ ∨ w.heap.size ≤ k_)) (fun _ => False) rfl rfl ?aP (fun _ hk => hk.elim) ?aF ?aO ?aB ?aS ?aL ?_
         (case aP => exact k37_mkM _ _ _ (⟨wrap64 (Int.tdiv x28_1 (wrap64 (a0_1 + 1))), Int.tmod x28_1 (wrap64 (a0_1 + 1))⟩ : S37))
         (case aB => exact (bl1_ HB.out GE0.out))
         (case aF => exact (fun k_ hk => (.inr (Nat.le_trans (by first | exact HK.out.1 | exact (show Kept w _ (fun k_ => (P0_4_ k_) ∨ k_ = g0) from by repeat (first | (with_reducible first | exact HK.out | apply Kept.alloc | apply Kept.drewN | apply Kept.drew | refine Kept.setCell ?_ (.inl (.inr rfl)) _) | exact HK.out)).1) hk))))
         (case aO => exact (ra_ HO210.out))
         (case aS => exact (below_size (bl1_ HB.out GE0.out)))
         (case aL => have := LMc15.out; omega)
         intro v212 w26 ho hb hg hat
         rw [← Ny211.out] at ho
         have n0_ := Aside0.mk (blk_grown (g := g0) (o := .cells #[.slice A0_0 l0_0.length c0_0, .int .i64 a0_1, .int .i64 a0_2, .int .i64 (wrap64 (x1003_1 + 1)), .slice Ao24 x1004_1.length co24] 85 (0, 0)) (bk_ BK0.out) hg (Kd.R_ne HO210.out BK0.out (by decide)))
         have n1_ := Aside0.mk (hb)
         have n2_ := Aside0.mk (Kept.of_grown (w := w) (S := (fun k_ => (P0_4_ k_) ∨ k_ = g0)) hg (by repeat (first | (with_reducible first | exact HK.out | apply Kept.alloc | apply Kept.drewN | apply Kept.drew | refine Kept.setCell ?_ (.inl (.inr rfl)) _) | exact HK.out)) (fun k_ e_ => Or.imp_left Or.inl ((HO210.out.1 k_ e_))))
         have n3_ := Aside0.mk (ho)
         clear BK0
         clear HB
         clear HK
         clear HO210
         have BK0 := n0_
         have HB := n1_
         have HK := n2_
         have HO213 := n3_
         clear n0_ n1_ n2_ n3_
         clear ho hb hg hat
         obtain ⟨Ao27, co27, eo27⟩ := Kd.R_slice HO213.out
         (first | subst eo27 | (injection eo27 with f1_ f2_ f3_; have f4_ := f1_.symm; have f5_ := f3_.symm; clear f1_ f2_ f3_; subst f4_; subst f5_))
         refine hK.out _ _ ⟨(blk_cell BK0.out 0).trans rfl, (blk_cell BK0.out 1).trans rfl, (blk_cell BK0.out 2).trans rfl, (blk_cell BK0.out 3).trans rfl, (blk_cell BK0.out 4).trans rfl⟩ (fun hHeld => ?_)
         clear hK K
         refine norm_ (a' := ?_) ?_ ?_
         rotate_left
         ·show Act.put _ (some 77) _ = _
          simp only [Act.put, List.setIfInBounds_toArray, List.set_cons_zero, List.set_cons_succ, i64_w, i32_w]
          rfl
         refine puz_ 24 (some 78) (nb_ 27 33554431) rfl rfl (any_of HT_.out (by kernel_rfl)) ?_
         refine puz_ 25 (some 79) (nb_ 27 67108863) rfl rfl (any_of HT_.out (by kernel_rfl)) ?_
         refine last_ (i := 26) (N := none) (nb_ 27 134217727) rfl rfl (one_of HT_.out (by kernel_rfl)) (by decide) (fun K hK => ?_)
         have hs28 : w26.cell? ⟨g0, 4, none⟩ = some (.slice Ao24 x1004_1.length co24) := (blk_cell BK0.out 4).trans rfl
         have hfs28 := blk_frozen BK0.out 4
         refine skip_ (w1 := ?_) (by rfl) rfl ?_ ?_
         rotate_left
         ·go_simp
          rfl
         refine hK.out _ _ ?_
         clear hK K
         refine done_ (done_of HT_.out (by kernel_rfl)) ?_
         try go_wp2
         have n0_ : Aside0 (Kd.R k37 37 (w26.setCell ⟨g0, 4, none⟩ (.slice Ao27 y211.length co27)) w0.heap.size (fun k_ => (P0_4_ k_ ∨ w.heap.size ≤ k_)) (.slice Ao27 y211.length co27) y211) := ⟨by (with_reducible repeat (first | apply Kd.R_alloc | apply Kd.R_drewN | apply Kd.R_drew)); exact Kd.R_mono (Kd.R_far (p := ⟨g0, 4, none⟩) (Kd.R_types HO213.out BK0.out (by decide)) (fun _ hk => hk.2) (.slice Ao27 y211.length co27)) (fun _ hk => hk.1)⟩
         have n1_ : Aside0 ((w26.setCell ⟨g0, 4, none⟩ (.slice Ao27 y211.length co27)).heap[g0]? = some (.cells #[.slice A0_0 l0_0.length c0_0, .int .i64 a0_1, .int .i64 a0_2, .int .i64 (wrap64 (x1003_1 + 1)), .slice Ao27 y211.length co27] 85 (0, 0))) := ⟨by (with_reducible repeat (first | refine blk_drewN ?_ _ | refine blk_drew ?_ | refine blk_alloc ?_ _)); refine blk_put (cs := #[.slice A0_0 l0_0.length c0_0, .int .i64 a0_1, .int .i64 a0_2, .int .i64 (wrap64 (x1003_1 + 1)), .slice Ao24 x1004_1.length co24]) ?_ 4 _ rfl; (with_reducible repeat (first | refine blk_drewN ?_ _ | refine blk_drew ?_ | refine blk_alloc ?_ _)); exact BK0.out⟩
         have n2_ : Aside0 (Kept w (w26.setCell ⟨g0, 4, none⟩ (.slice Ao27 y211.length co27)) (fun k_ => (P0_4_ k_) ∨ k_ = g0)) := ⟨by repeat (first | (with_reducible first | exact HK.out | apply Kept.alloc | apply Kept.drewN | apply Kept.drew | refine Kept.setCell ?_ (.inl (.inr rfl)) _) | exact HK.out)⟩
         have n3_ : Aside0 (Below w0.heap.size w0 (w26.setCell ⟨g0, 4, none⟩ (.slice Ao27 y211.length co27))) := ⟨bl1_ HB.out GE0.out⟩
         (try clear HO213)
         (try clear BK0)
         (try clear HK)
         (try clear HB)
         generalize (w26.setCell ⟨g0, 4, none⟩ (.slice Ao27 y211.length co27)) = w29 at n0_ n1_ n2_ n3_ ⊢
         have HO213 := n0_
         have BK0 := n1_
         have HK := n2_
         have HB := n3_
         clear n0_ n1_ n2_ n3_
         have n0_ := Aside0.mk (Kd.R_drew HO213.out)
         have n1_ := Aside0.mk (blk_drew BK0.out)
         have n2_ := Aside0.mk (Kept.drew HK.out)
         have n3_ := Aside0.mk (below_drew1 HB.out)
         clear HO213
         clear BK0
         clear HK
         clear HB
         have HO213 := n0_
         have BK0 := n1_
         have HK := n2_
         have HB := n3_
         clear n0_ n1_ n2_ n3_
         refine start_ (n := 13) (S := fun w' => w'.cell? ⟨g0, 0, none⟩ = some (.slice A0_0 l0_0.length c0_0) ∧ w'.cell? ⟨g0, 1, none⟩ = some (.int .i64 a0_1) ∧ w'.cell? ⟨g0, 2, none⟩ = some (.int .i64 a0_2) ∧ w'.cell? ⟨g0, 3, none⟩ = some (.int .i64 (wrap64 (x1003_1 + 1))) ∧ w'.cell? ⟨g0, 4, none⟩ = some (.slice Ao27 y211.length co27)) (ds := [11]) (nb_ 13 0) (by kernel_rfl) rfl rfl ⟨(blk_cell BK0.out 0).trans rfl, (blk_cell BK0.out 1).trans rfl, (blk_cell BK0.out 2).trans rfl, (blk_cell BK0.out 3).trans rfl, (blk_cell BK0.out 4).trans rfl⟩ (fun hHeld => ?_); refine with_tabW impl_packer_search.tab12 impl_packer_search.bits12 (fun HT_ HW_ => ?_)
         generalize w29.drew = w30 at HO213 BK0 HK HB hHeld ⊢
         refine puz_ 0 (some 80) (nb_ 13 1) rfl rfl (any_of HT_.out (by kernel_rfl)) ?_
         refine puz_ 1 (some 81) (nb_ 13 3) rfl rfl (any_of HT_.out (by kernel_rfl)) ?_
         refine puz_ 2 (some 82) (nb_ 13 7) rfl rfl (any_of HT_.out (by kernel_rfl)) ?_
         refine puz_ 4 (some 84) (nb_ 13 23) rfl rfl (any_of HT_.out (by kernel_rfl)) ?_
         refine puz_ 5 (some 85) (nb_ 13 55) rfl rfl (any_of HT_.out (by kernel_rfl)) ?_
         refine puz_ 6 (some 86) (nb_ 13 119) rfl rfl (any_of HT_.out (by kernel_rfl)) ?_
         refine tkz_ 3 (some 83) (nb_ 13 127) rfl rfl (take_ofW HT_.out HW_.out (by kernel_rfl)) hHeld ?_
         refine tkz_ 7 (some 87) (nb_ 13 255) rfl rfl (take_ofW HT_.out HW_.out (by kernel_rfl)) hHeld ?_
         refine one_ (i := 8) (N := some 88) (nb_ 13 511) rfl rfl (one_of HT_.out (by kernel_rfl)) (by decide) (fun K hK => ?_)
         refine goes_ Try.func30 (by kernel_rfl) rfl #[.slice A0_0 l0_0.length c0_0, .slice Ao27 y211.length co27] (by rfl) rfl rfl mp_ ?_
         with_reducible refine (impl_isApart.calls k1 _ _ l0_0 _ _ y211 true _ ?side1 ?side2 ?side3 ?side4 A16.out).mono ?_
         (case side1 => exact Kd.C_kept_now HR0_0.out (by repeat (first | (with_reducible first | exact HK.out | apply Kept.alloc | apply Kept.drewN | apply Kept.drew | refine Kept.setCell ?_ (.inl (.inr rfl)) _) | exact HK.out)))
         (case side2 => exact HC0_0.out)
         (case side3 => exact ca_ (Kd.R_reads' HO213.out).2.2)
         (case side4 => exact (Kd.R_reads' HO213.out).2.1)
         rintro e w31 ⟨rfl, hb⟩
         refine ⟨_, rfl, ?_⟩
         have n0_ := Aside0.mk (Kd.R_below (ra_ HO213.out) hb)
         have n1_ := Aside0.mk (blk_below (g := g0) (o := .cells #[.slice A0_0 l0_0.length c0_0, .int .i64 a0_1, .int .i64 a0_2, .int .i64 (wrap64 (x1003_1 + 1)), .slice Ao27 y211.length co27] 85 (0, 0)) (bk_ BK0.out) hb)
         have n2_ := Aside0.mk (Kept.below (w := w) (S := (fun k_ => (P0_4_ k_) ∨ k_ = g0)) (by repeat (first | (with_reducible first | exact HK.out | apply Kept.alloc | apply Kept.drewN | apply Kept.drew | refine Kept.setCell ?_ (.inl (.inr rfl)) _) | exact HK.out)) hb)
         have n3_ := Aside0.mk (below_step (bl1_ HB.out GE0.out) hb)
         clear HO213
         clear BK0
         clear HK
         clear HB
         have HO213 := n0_
         have BK0 := n1_
         have HK := n2_
         have HB := n3_
         clear n0_ n1_ n2_ n3_
         (try clear hb)
         (try clear hb2)
         (try clear hk)
         (try clear hi)
         refine hK.out _ _ ⟨(blk_cell BK0.out 0).trans rfl, (blk_cell BK0.out 1).trans rfl, (blk_cell BK0.out 2).trans rfl, (blk_cell BK0.out 3).trans rfl, (blk_cell BK0.out 4).trans rfl⟩ (fun hHeld => ?_)
         clear hK K
         refine norm_ (a' := ?_) ?_ ?_
         rotate_left
         ·show Act.put _ (some 88) _ = _
          simp only [Act.put, List.setIfInBounds_toArray, List.set_cons_zero, List.set_cons_succ, i64_w, i32_w]
          rfl
         refine puz_ 9 (some 89) (nb_ 13 1023) rfl rfl (any_of HT_.out (by kernel_rfl)) ?_
         refine puz_ 10 (some 90) (nb_ 13 2047) rfl rfl (any_of HT_.out (by kernel_rfl)) ?_
         refine last_ (i := 11) (N := some 91) (nb_ 13 4095) rfl rfl (one_of HT_.out (by kernel_rfl)) (by decide) (fun K hK => ?_)
         refine goes_ Try.func46 (by kernel_rfl) rfl #[.pointer (some ⟨g0, 0, none⟩)] (by rfl) rfl rfl mp_ ?_
         with_reducible refine (ih k1 (by have := HK1.out; omega) g0 A0_0 c0_0 l0_0 a0_1 a0_2 (wrap64 (x1003_1 + 1)) (fun k_ => some k_ = (.slice Ao27 y211.length co27 : Value).ownBlock) (.slice Ao27 y211.length co27) y211 true t216 t217 w0 _ ?side1 ?side2 ?side3 ?side4 ?side5 ?side6 A18.out).mono ?_
         (case side1 => repeat (first | (with_reducible first | exact HB.out | apply below_alloc | apply pw_below_drewN | apply below_drew1 | refine below_set ?_ GE0.out) | exact HB.out))
         (case side2 => exact by (with_reducible repeat (first | refine blk_drewN ?_ _ | refine blk_drew ?_ | refine blk_alloc ?_ _)); exact BK0.out)
         (case side3 => exact GE0.out)
         (case side4 => exact Kd.C_kept_call HR0_0.out (by repeat (first | (with_reducible first | exact HK.out | apply Kept.alloc | apply Kept.drewN | apply Kept.drew | refine Kept.setCell ?_ (.inl (.inr rfl)) _) | exact HK.out)) (fun k_ hs_ => Or.elim hs_ (fun hs_ => (fun e_ => Or.imp_left Or.inl ((HO213.out.1 k_ e_.symm))) hs_) (fun e_ => .inl (.inr e_))))
         (case side5 => exact HC0_0.out)
         (case side6 => exact Kd.R_tight rfl HO213.out)
         rintro e w32 ⟨v218, rfl, hbx, ho0, hb, hkp⟩
         refine ⟨_, rfl, ?_⟩
         have n0_ := Aside0.mk (hbx)
         have n1_ := Aside0.mk (Kd.R_mono (ok' := fun k_ => (P0_4_ k_ ∨ w.heap.size ≤ k_)) ho0 (fun k_ hk_ => Or.elim hk_ (fun hs_ => (HO213.out.1 k_ (hs_).symm)) (fun hn_ => (.inr (Nat.le_trans (by first | exact HK.out.1 | exact (show Kept w _ (fun k_ => (P0_4_ k_) ∨ k_ = g0) from by repeat (first | (with_reducible first | exact HK.out | apply Kept.alloc | apply Kept.drewN | apply Kept.drew | refine Kept.setCell ?_ (.inl (.inr rfl)) _) | exact HK.out)).1) hn_)))))
         have n2_ := Aside0.mk (Kept.then_ (w := w) (S := (fun k_ => (P0_4_ k_) ∨ k_ = g0)) (by repeat (first | (with_reducible first | exact HK.out | apply Kept.alloc | apply Kept.drewN | apply Kept.drew | refine Kept.setCell ?_ (.inl (.inr rfl)) _) | exact HK.out)) hkp (fun k_ hs_ => Or.elim hs_ (fun hs_ => (fun e_ => Or.imp_left Or.inl ((HO213.out.1 k_ e_.symm))) hs_) (fun e_ => .inl (.inr e_))))
         have n3_ := Aside0.mk (hb)
         clear BK0
         clear HK
         clear HB
         clear HO213
         have BK0 := n0_
         have HO219 := n1_
         have HK := n2_
         have HB := n3_
         clear n0_ n1_ n2_ n3_
         (try clear hb)
         (try clear hkp)
         (try clear ho0)
         refine hK.out _ _ ?_
         clear hK K
         refine norm_ (a' := ?_) ?_ ?_
         rotate_left
         ·show Act.put _ (some 91) _ = _
          simp only [Act.put, List.setIfInBounds_toArray, List.set_cons_zero, List.set_cons_succ, i64_w, i32_w]
          rfl
         refine puz_ 12 (some 92) (nb_ 13 8191) rfl rfl (any_of HT_.out (by kernel_rfl)) ?_
         refine done_ (done_of HT_.out (by kernel_rfl)) ?_
         try go_wp2
         go_ret
         exact ⟨(v218), by first | rfl | (simp [errW_none, errW_some] <;> rfl) | (simp [*, errW_none, errW_some] <;> rfl), by (with_reducible repeat (first | refine blk_drewN ?_ _ | refine blk_drew ?_ | refine blk_alloc ?_ _)); exact BK0.out, ra_ HO219.out, by repeat (first | (with_reducible first | exact HB.out | apply below_alloc | apply pw_below_drewN | apply below_drew1 | refine below_set ?_ GE0.out) | exact HB.out), by repeat (first | (with_reducible first | exact HK.out | apply Kept.alloc | apply Kept.drewN | apply Kept.drew | refine Kept.setCell ?_ (.inl (.inr rfl)) _) | exact HK.out)⟩
        ·replace c19 := Bool.eq_false_iff.mpr c19
         subst c19
         have H1 : (impl_packer_search.l0 k1 (l0_4.length : Int) (wrap64 ((wrap64 (a0_1 + 1)) * (wrap64 (a0_1 + 1)))) (wrap64 (x28_1 + 1)) l0_0 a0_1 a0_2 t216 t217) = some (r1, r2, r3) := by rw [if_neg (show ¬ (false = true) by decide)] at H; exact H
         clear H
         have H := H1
         clear H1
         have H' := Aside0.mk H
         clear H
         try go_wp2
         have n0_ := Aside0.mk (Kd.R_drew HO_1004.out)
         have n1_ := Aside0.mk (blk_drew BK0.out)
         have n2_ := Aside0.mk (Kept.drew HK.out)
         have n3_ := Aside0.mk (below_drew1 HB.out)
         clear HO_1004
         clear BK0
         clear HK
         clear HB
         have HO_1004 := n0_
         have BK0 := n1_
         have HK := n2_
         have HB := n3_
         clear n0_ n1_ n2_ n3_
         refine start_ (n := 9) (S := fun w' => w'.cell? ⟨g0, 0, none⟩ = some (.slice A0_0 l0_0.length c0_0) ∧ w'.cell? ⟨g0, 1, none⟩ = some (.int .i64 a0_1) ∧ w'.cell? ⟨g0, 2, none⟩ = some (.int .i64 a0_2) ∧ w'.cell? ⟨g0, 3, none⟩ = some (.int .i64 x1003_1) ∧ w'.cell? ⟨g0, 4, none⟩ = some (u1004)) (ds := []) (nb_ 9 0) (by kernel_rfl) rfl rfl ⟨(blk_cell BK0.out 0).trans rfl, (blk_cell BK0.out 1).trans rfl, (blk_cell BK0.out 2).trans rfl, (blk_cell BK0.out 3).trans rfl, (blk_cell BK0.out 4).trans rfl⟩ (fun hHeld => ?_); refine with_tabW impl_packer_search.tab7 impl_packer_search.bits7 (fun HT_ HW_ => ?_)
         generalize wr.drew = w33 at HO_1004 BK0 HK HB hHeld ⊢
         refine puz_ 0 (some 31) (nb_ 9 1) rfl rfl (any_of HT_.out (by kernel_rfl)) ?_
         refine puz_ 1 (some 32) (nb_ 9 3) rfl rfl (any_of HT_.out (by kernel_rfl)) ?_
         refine puz_ 2 (some 33) (nb_ 9 7) rfl rfl (any_of HT_.out (by kernel_rfl)) ?_
         refine puz_ 4 (some 35) (nb_ 9 23) rfl rfl (any_of HT_.out (by kernel_rfl)) ?_
         refine puz_ 5 (some 36) (nb_ 9 55) rfl rfl (any_of HT_.out (by kernel_rfl)) ?_
         refine puz_ 6 (some 37) (nb_ 9 119) rfl rfl (any_of HT_.out (by kernel_rfl)) ?_
         refine tkz_ 3 (some 34) (nb_ 9 127) rfl rfl (take_ofW HT_.out HW_.out (by kernel_rfl)) hHeld ?_
         refine tkz_ 7 (some 38) (nb_ 9 255) rfl rfl (take_ofW HT_.out HW_.out (by kernel_rfl)) hHeld ?_
         refine puz_ 8 (some 39) (nb_ 9 511) rfl rfl (any_of HT_.out (by kernel_rfl)) ?_
         refine done_ (done_of HT_.out (by kernel_rfl)) ?_
         obtain ⟨hcz34_0, hcz34_1, hcz34_2, hcz34_3, hcz34_4, hfz34_0, hfz34_1, hfz34_2, hfz34_3, hfz34_4⟩ := cz5_ BK0.out
         try go_wp2
         have n0_ : Aside0 (Kd.R k37 37 (w33.setCell ⟨g0, 3, none⟩ (.int .i64 (wrap64 (x1003_1 + 1)))) w0.heap.size (fun k_ => (P0_4_ k_ ∨ w.heap.size ≤ k_)) u1004 x1004_1) := ⟨by (with_reducible repeat (first | apply Kd.R_alloc | apply Kd.R_drewN | apply Kd.R_drew)); exact Kd.R_mono (Kd.R_far (p := ⟨g0, 3, none⟩) (Kd.R_types HO_1004.out BK0.out (by decide)) (fun _ hk => hk.2) (.int .i64 (wrap64 (x1003_1 + 1)))) (fun _ hk => hk.1)⟩
         have n1_ : Aside0 ((w33.setCell ⟨g0, 3, none⟩ (.int .i64 (wrap64 (x1003_1 + 1)))).heap[g0]? = some (.cells #[.slice A0_0 l0_0.length c0_0, .int .i64 a0_1, .int .i64 a0_2, .int .i64 (wrap64 (x1003_1 + 1)), u1004] 85 (0, 0))) := ⟨by (with_reducible repeat (first | refine blk_drewN ?_ _ | refine blk_drew ?_ | refine blk_alloc ?_ _)); refine blk_put (cs := #[.slice A0_0 l0_0.length c0_0, .int .i64 a0_1, .int .i64 a0_2, .int .i64 x1003_1, u1004]) ?_ 3 _ rfl; (with_reducible repeat (first | refine blk_drewN ?_ _ | refine blk_drew ?_ | refine blk_alloc ?_ _)); exact BK0.out⟩
         have n2_ : Aside0 (Kept w (w33.setCell ⟨g0, 3, none⟩ (.int .i64 (wrap64 (x1003_1 + 1)))) (fun k_ => (P0_4_ k_) ∨ k_ = g0)) := ⟨by repeat (first | (with_reducible first | exact HK.out | apply Kept.alloc | apply Kept.drewN | apply Kept.drew | refine Kept.setCell ?_ (.inl (.inr rfl)) _) | exact HK.out)⟩
         have n3_ : Aside0 (Below w0.heap.size w0 (w33.setCell ⟨g0, 3, none⟩ (.int .i64 (wrap64 (x1003_1 + 1))))) := ⟨bl1_ HB.out GE0.out⟩
         (try clear HO_1004)
         (try clear BK0)
         (try clear HK)
         (try clear HB)
         generalize (w33.setCell ⟨g0, 3, none⟩ (.int .i64 (wrap64 (x1003_1 + 1)))) = w35 at n0_ n1_ n2_ n3_ ⊢
         have HO_1004 := n0_
         have BK0 := n1_
         have HK := n2_
         have HB := n3_
         clear n0_ n1_ n2_ n3_
         have n0_ := Aside0.mk (Kd.R_drew HO_1004.out)
         have n1_ := Aside0.mk (blk_drew BK0.out)
         have n2_ := Aside0.mk (Kept.drew HK.out)
         have n3_ := Aside0.mk (below_drew1 HB.out)
         clear HO_1004
         clear BK0
         clear HK
         clear HB
         have HO_1004 := n0_
         have BK0 := n1_
         have HK := n2_
         have HB := n3_
         clear n0_ n1_ n2_ n3_
         obtain ⟨Ao37, co37, eo37⟩ := Kd.R_slice HO_1004.out
         (first | subst eo37 | (injection eo37 with f1_ f2_ f3_; have f4_ := f1_.symm; have f5_ := f3_.symm; clear f1_ f2_ f3_; subst f4_; subst f5_))
         have q38 : ((l0_4.length : Int) : Int) ≤ ((x1004_1.length : Int) : Int) := od_
         obtain ⟨i038, hi038, _, hsz38, _⟩ := info_parts info37
         have hcut38 := cut_to (P := Try.prog) 29 37 .i64 Try.underlying29 hi038 Ao37 x1004_1.length co37 (l0_4.length : Int) (od_) q38 (Kd.R_reads' HO_1004.out).2.1
         have hr38 := Kd.R_take (m := ((l0_4.length : Int) : Int).toNat) HO_1004.out (by omega)
         have hy38 : y208.length = ((l0_4.length : Int) : Int).toNat := (by rw [Ny208.out, List.length_take]; omega)
         rw [← Ny208.out] at hr38
         rw [← hy38] at hr38 hcut38
         clear hy38 hi038 hsz38 HO_1004
         have HO210 := Aside0.mk hr38
         clear hr38
         replace q38 := eq_true q38
         refine start_ (n := 27) (S := fun w' => w'.cell? ⟨g0, 0, none⟩ = some (.slice A0_0 l0_0.length c0_0) ∧ w'.cell? ⟨g0, 1, none⟩ = some (.int .i64 a0_1) ∧ w'.cell? ⟨g0, 2, none⟩ = some (.int .i64 a0_2) ∧ w'.cell? ⟨g0, 3, none⟩ = some (.int .i64 (wrap64 (x1003_1 + 1))) ∧ w'.cell? ⟨g0, 4, none⟩ = some (.slice Ao37 x1004_1.length co37)) (ds := [26]) (nb_ 27 0) (by kernel_rfl) rfl rfl ⟨(blk_cell BK0.out 0).trans rfl, (blk_cell BK0.out 1).trans rfl, (blk_cell BK0.out 2).trans rfl, (blk_cell BK0.out 3).trans rfl, (blk_cell BK0.out 4).trans rfl⟩ (fun hHeld => ?_); refine with_tabW impl_packer_search.tab11 impl_packer_search.bits11 (fun HT_ HW_ => ?_)
         generalize w35.drew = w36 at BK0 HK HB HO210 hHeld ⊢
         refine puz_ 0 (some 54) (nb_ 27 1) rfl rfl (any_of HT_.out (by kernel_rfl)) ?_
         refine puz_ 1 (some 55) (nb_ 27 3) rfl rfl (any_of HT_.out (by kernel_rfl)) ?_
         refine puz_ 2 (some 56) (nb_ 27 7) rfl rfl (any_of HT_.out (by kernel_rfl)) ?_
         refine puz_ 3 (some 57) (nb_ 27 15) rfl rfl (any_of HT_.out (by kernel_rfl)) ?_
         refine puz_ 5 (some 59) (nb_ 27 47) rfl rfl (any_of HT_.out (by kernel_rfl)) ?_
         refine puz_ 7 (some 61) (nb_ 27 175) rfl rfl (any_of HT_.out (by kernel_rfl)) ?_
         refine puz_ 8 (some 62) (nb_ 27 431) rfl rfl (any_of HT_.out (by kernel_rfl)) ?_
         refine puz_ 9 (some 63) (nb_ 27 943) rfl rfl (any_of HT_.out (by kernel_rfl)) ?_
         refine puz_ 10 (some 64) (nb_ 27 1967) rfl rfl (any_of HT_.out (by kernel_rfl)) ?_
         refine puz_ 14 (some 68) (nb_ 27 18351) rfl rfl (any_of HT_.out (by kernel_rfl)) ?_
         refine puz_ 15 (some 69) (nb_ 27 51119) rfl rfl (any_of HT_.out (by kernel_rfl)) ?_
         refine puz_ 16 (some 70) (nb_ 27 116655) rfl rfl (any_of HT_.out (by kernel_rfl)) ?_
         refine puz_ 17 (some 71) (nb_ 27 247727) rfl rfl (any_of HT_.out (by kernel_rfl)) ?_
         refine tkz_ 4 (some 58) (nb_ 27 247743) rfl rfl (take_ofW HT_.out HW_.out (by kernel_rfl)) hHeld ?_
         refine puz_ 6 (some 60) (nb_ 27 247807) rfl rfl (any_of HT_.out (by kernel_rfl)) ?_
         refine tkz_ 11 (some 65) (nb_ 27 249855) rfl rfl (take_ofW HT_.out HW_.out (by kernel_rfl)) hHeld ?_
         refine puz_ 12 (some 66) (nb_ 27 253951) rfl rfl (any_of HT_.out (by kernel_rfl)) ?_
         refine puz_ 13 (some 67) (nb_ 27 262143) rfl rfl (any_of HT_.out (by kernel_rfl)) ?_
         refine tkz_ 18 (some 72) (nb_ 27 524287) rfl rfl (take_ofW HT_.out HW_.out (by kernel_rfl)) hHeld ?_
         refine puz_ 19 (some 73) (nb_ 27 1048575) rfl rfl (any_of HT_.out (by kernel_rfl)) ?_
         refine puz_ 20 (some 74) (nb_ 27 2097151) rfl rfl (any_of HT_.out (by kernel_rfl)) ?_
         refine puz_ 21 (some 75) (nb_ 27 4194303) rfl rfl (any_of HT_.out (by kernel_rfl)) ?_
         refine one_ (i := 22) (N := some 76) (nb_ 27 8388607) rfl rfl (one_of HT_.out (by kernel_rfl)) (by decide) (fun K hK => ?_)
         refine value_ (w1 := ?_) (v := ?_) (by rfl) rfl ?_ ?_
         rotate_left 2
         ·go_simp
          constructor
          ·rfl
          ·rfl
         refine hK.out _ _ ⟨(blk_cell (blk_alloc BK0.out _) 0).trans rfl, (blk_cell (blk_alloc BK0.out _) 1).trans rfl, (blk_cell (blk_alloc BK0.out _) 2).trans rfl, (blk_cell (blk_alloc BK0.out _) 3).trans rfl, (blk_cell (blk_alloc BK0.out _) 4).trans rfl⟩ (fun hHeld => ?_)
         clear hK K
         refine norm_ (a' := ?_) ?_ ?_
         rotate_left
         ·show Act.put _ (some 76) _ = _
          simp only [Act.put, List.setIfInBounds_toArray, List.set_cons_zero, List.set_cons_succ, i64_w, i32_w]
          rfl
         refine one_ (i := 23) (N := some 77) (nb_ 27 16777215) rfl rfl (one_of HT_.out (by kernel_rfl)) (by decide) (fun K hK => ?_)
         refine Kd.R_append_step k37 (w0 := w0) w0.heap.size (by rfl) (.tmp 60) (.tmp 76) 29 37 (.agg #[(.int .i64 0), (.int .i64 0)]) 16 rfl Try.underlying29 info37 rfl (by decide) (by omega) (.slice Ao37 y208.length co37) y208 (⟨wrap64 (Int.tdiv x28_1 (wrap64 (a0_1 + 1))), Int.tmod x28_1 (wrap64 (a0_1 + 1))⟩ : S37) [.int .i64 (wrap64 (Int.tdiv x28_1 (wrap64 (a0_1 + 1)))), .int .i64 (Int.tmod x28_1 (wrap64 (a0_1 + 1)))] (fun k_ => (P0_4_ k_ ∨ w.heap.size ≤ k_)) (fun _ => False) rfl rfl ?aP (fun _ hk => hk.elim) ?aF ?aO ?aB ?aS ?aL ?_
         (case aP => exact k37_mkM _ _ _ (⟨wrap64 (Int.tdiv x28_1 (wrap64 (a0_1 + 1))), Int.tmod x28_1 (wrap64 (a0_1 + 1))⟩ : S37))
         (case aB => exact (bl1_ HB.out GE0.out))
         (case aF => exact (fun k_ hk => (.inr (Nat.le_trans (by first | exact HK.out.1 | exact (show Kept w _ (fun k_ => (P0_4_ k_) ∨ k_ = g0) from by repeat (first | (with_reducible first | exact HK.out | apply Kept.alloc | apply Kept.drewN | apply Kept.drew | refine Kept.setCell ?_ (.inl (.inr rfl)) _) | exact HK.out)).1) hk))))
         (case aO => exact (ra_ HO210.out))
         (case aS => exact (below_size (bl1_ HB.out GE0.out)))
         (case aL => have := LMc15.out; omega)
         intro v212 w39 ho hb hg hat
         rw [← Ny211.out] at ho
         have n0_ := Aside0.mk (blk_grown (g := g0) (o := .cells #[.slice A0_0 l0_0.length c0_0, .int .i64 a0_1, .int .i64 a0_2, .int .i64 (wrap64 (x1003_1 + 1)), .slice Ao37 x1004_1.length co37] 85 (0, 0)) (bk_ BK0.out) hg (Kd.R_ne HO210.out BK0.out (by decide)))
         have n1_ := Aside0.mk (hb)
         have n2_ := Aside0.mk (Kept.of_grown (w := w) (S := (fun k_ => (P0_4_ k_) ∨ k_ = g0)) hg (by repeat (first | (with_reducible first | exact HK.out | apply Kept.alloc | apply Kept.drewN | apply Kept.drew | refine Kept.setCell ?_ (.inl (.inr rfl)) _) | exact HK.out)) (fun k_ e_ => Or.imp_left Or.inl ((HO210.out.1 k_ e_))))
         have n3_ := Aside0.mk (ho)
         clear BK0
         clear HB
         clear HK
         clear HO210
         have BK0 := n0_
         have HB := n1_
         have HK := n2_
         have HO213 := n3_
         clear n0_ n1_ n2_ n3_
         clear ho hb hg hat
         obtain ⟨Ao40, co40, eo40⟩ := Kd.R_slice HO213.out
         (first | subst eo40 | (injection eo40 with f1_ f2_ f3_; have f4_ := f1_.symm; have f5_ := f3_.symm; clear f1_ f2_ f3_; subst f4_; subst f5_))
         refine hK.out _ _ ⟨(blk_cell BK0.out 0).trans rfl, (blk_cell BK0.out 1).trans rfl, (blk_cell BK0.out 2).trans rfl, (blk_cell BK0.out 3).trans rfl, (blk_cell BK0.out 4).trans rfl⟩ (fun hHeld => ?_)
         clear hK K
         refine norm_ (a' := ?_) ?_ ?_
         rotate_left
         ·show Act.put _ (some 77) _ = _
          simp only [Act.put, List.setIfInBounds_toArray, List.set_cons_zero, List.set_cons_succ, i64_w, i32_w]
          rfl
         refine puz_ 24 (some 78) (nb_ 27 33554431) rfl rfl (any_of HT_.out (by kernel_rfl)) ?_
         refine puz_ 25 (some 79) (nb_ 27 67108863) rfl rfl (any_of HT_.out (by kernel_rfl)) ?_
         refine last_ (i := 26) (N := none) (nb_ 27 134217727) rfl rfl (one_of HT_.out (by kernel_rfl)) (by decide) (fun K hK => ?_)
         have hs41 : w39.cell? ⟨g0, 4, none⟩ = some (.slice Ao37 x1004_1.length co37) := (blk_cell BK0.out 4).trans rfl
         have hfs41 := blk_frozen BK0.out 4
         refine skip_ (w1 := ?_) (by rfl) rfl ?_ ?_
         rotate_left
         ·go_simp
          rfl
         refine hK.out _ _ ?_
         clear hK K
         refine done_ (done_of HT_.out (by kernel_rfl)) ?_
         try go_wp2
         have n0_ : Aside0 (Kd.R k37 37 (w39.setCell ⟨g0, 4, none⟩ (.slice Ao40 y211.length co40)) w0.heap.size (fun k_ => (P0_4_ k_ ∨ w.heap.size ≤ k_)) (.slice Ao40 y211.length co40) y211) := ⟨by (with_reducible repeat (first | apply Kd.R_alloc | apply Kd.R_drewN | apply Kd.R_drew)); exact Kd.R_mono (Kd.R_far (p := ⟨g0, 4, none⟩) (Kd.R_types HO213.out BK0.out (by decide)) (fun _ hk => hk.2) (.slice Ao40 y211.length co40)) (fun _ hk => hk.1)⟩
         have n1_ : Aside0 ((w39.setCell ⟨g0, 4, none⟩ (.slice Ao40 y211.length co40)).heap[g0]? = some (.cells #[.slice A0_0 l0_0.length c0_0, .int .i64 a0_1, .int .i64 a0_2, .int .i64 (wrap64 (x1003_1 + 1)), .slice Ao40 y211.length co40] 85 (0, 0))) := ⟨by (with_reducible repeat (first | refine blk_drewN ?_ _ | refine blk_drew ?_ | refine blk_alloc ?_ _)); refine blk_put (cs := #[.slice A0_0 l0_0.length c0_0, .int .i64 a0_1, .int .i64 a0_2, .int .i64 (wrap64 (x1003_1 + 1)), .slice Ao37 x1004_1.length co37]) ?_ 4 _ rfl; (with_reducible repeat (first | refine blk_drewN ?_ _ | refine blk_drew ?_ | refine blk_alloc ?_ _)); exact BK0.out⟩
         have n2_ : Aside0 (Kept w (w39.setCell ⟨g0, 4, none⟩ (.slice Ao40 y211.length co40)) (fun k_ => (P0_4_ k_) ∨ k_ = g0)) := ⟨by repeat (first | (with_reducible first | exact HK.out | apply Kept.alloc | apply Kept.drewN | apply Kept.drew | refine Kept.setCell ?_ (.inl (.inr rfl)) _) | exact HK.out)⟩
         have n3_ : Aside0 (Below w0.heap.size w0 (w39.setCell ⟨g0, 4, none⟩ (.slice Ao40 y211.length co40))) := ⟨bl1_ HB.out GE0.out⟩
         (try clear HO213)
         (try clear BK0)
         (try clear HK)
         (try clear HB)
         generalize (w39.setCell ⟨g0, 4, none⟩ (.slice Ao40 y211.length co40)) = w42 at n0_ n1_ n2_ n3_ ⊢
         have HO213 := n0_
         have BK0 := n1_
         have HK := n2_
         have HB := n3_
         clear n0_ n1_ n2_ n3_
         have n0_ := Aside0.mk (Kd.R_drew HO213.out)
         have n1_ := Aside0.mk (blk_drew BK0.out)
         have n2_ := Aside0.mk (Kept.drew HK.out)
         have n3_ := Aside0.mk (below_drew1 HB.out)
         clear HO213
         clear BK0
         clear HK
         clear HB
         have HO213 := n0_
         have BK0 := n1_
         have HK := n2_
         have HB := n3_
         clear n0_ n1_ n2_ n3_
         refine start_ (n := 13) (S := fun w' => w'.cell? ⟨g0, 0, none⟩ = some (.slice A0_0 l0_0.length c0_0) ∧ w'.cell? ⟨g0, 1, none⟩ = some (.int .i64 a0_1) ∧ w'.cell? ⟨g0, 2, none⟩ = some (.int .i64 a0_2) ∧ w'.cell? ⟨g0, 3, none⟩ = some (.int .i64 (wrap64 (x1003_1 + 1))) ∧ w'.cell? ⟨g0, 4, none⟩ = some (.slice Ao40 y211.length co40)) (ds := [11]) (nb_ 13 0) (by kernel_rfl) rfl rfl ⟨(blk_cell BK0.out 0).trans rfl, (blk_cell BK0.out 1).trans rfl, (blk_cell BK0.out 2).trans rfl, (blk_cell BK0.out 3).trans rfl, (blk_cell BK0.out 4).trans rfl⟩ (fun hHeld => ?_); refine with_tabW impl_packer_search.tab12 impl_packer_search.bits12 (fun HT_ HW_ => ?_)
         generalize w42.drew = w43 at HO213 BK0 HK HB hHeld ⊢
         refine puz_ 0 (some 80) (nb_ 13 1) rfl rfl (any_of HT_.out (by kernel_rfl)) ?_
         refine puz_ 1 (some 81) (nb_ 13 3) rfl rfl (any_of HT_.out (by kernel_rfl)) ?_
         refine puz_ 2 (some 82) (nb_ 13 7) rfl rfl (any_of HT_.out (by kernel_rfl)) ?_
         refine puz_ 4 (some 84) (nb_ 13 23) rfl rfl (any_of HT_.out (by kernel_rfl)) ?_
         refine puz_ 5 (some 85) (nb_ 13 55) rfl rfl (any_of HT_.out (by kernel_rfl)) ?_
         refine puz_ 6 (some 86) (nb_ 13 119) rfl rfl (any_of HT_.out (by kernel_rfl)) ?_
         refine tkz_ 3 (some 83) (nb_ 13 127) rfl rfl (take_ofW HT_.out HW_.out (by kernel_rfl)) hHeld ?_
         refine tkz_ 7 (some 87) (nb_ 13 255) rfl rfl (take_ofW HT_.out HW_.out (by kernel_rfl)) hHeld ?_
         refine one_ (i := 8) (N := some 88) (nb_ 13 511) rfl rfl (one_of HT_.out (by kernel_rfl)) (by decide) (fun K hK => ?_)
         refine goes_ Try.func30 (by kernel_rfl) rfl #[.slice A0_0 l0_0.length c0_0, .slice Ao40 y211.length co40] (by rfl) rfl rfl mp_ ?_
         with_reducible refine (impl_isApart.calls k1 _ _ l0_0 _ _ y211 true _ ?side1 ?side2 ?side3 ?side4 A16.out).mono ?_
         (case side1 => exact Kd.C_kept_now HR0_0.out (by repeat (first | (with_reducible first | exact HK.out | apply Kept.alloc | apply Kept.drewN | apply Kept.drew | refine Kept.setCell ?_ (.inl (.inr rfl)) _) | exact HK.out)))
         (case side2 => exact HC0_0.out)
         (case side3 => exact ca_ (Kd.R_reads' HO213.out).2.2)
         (case side4 => exact (Kd.R_reads' HO213.out).2.1)
         rintro e w44 ⟨rfl, hb⟩
         refine ⟨_, rfl, ?_⟩
         have n0_ := Aside0.mk (Kd.R_below (ra_ HO213.out) hb)
         have n1_ := Aside0.mk (blk_below (g := g0) (o := .cells #[.slice A0_0 l0_0.length c0_0, .int .i64 a0_1, .int .i64 a0_2, .int .i64 (wrap64 (x1003_1 + 1)), .slice Ao40 y211.length co40] 85 (0, 0)) (bk_ BK0.out) hb)
         have n2_ := Aside0.mk (Kept.below (w := w) (S := (fun k_ => (P0_4_ k_) ∨ k_ = g0)) (by repeat (first | (with_reducible first | exact HK.out | apply Kept.alloc | apply Kept.drewN | apply Kept.drew | refine Kept.setCell ?_ (.inl (.inr rfl)) _) | exact HK.out)) hb)
         have n3_ := Aside0.mk (below_step (bl1_ HB.out GE0.out) hb)
         clear HO213
         clear BK0
         clear HK
         clear HB
         have HO213 := n0_
         have BK0 := n1_
         have HK := n2_
         have HB := n3_
         clear n0_ n1_ n2_ n3_
         (try clear hb)
         (try clear hb2)
         (try clear hk)
         (try clear hi)
         refine hK.out _ _ ⟨(blk_cell BK0.out 0).trans rfl, (blk_cell BK0.out 1).trans rfl, (blk_cell BK0.out 2).trans rfl, (blk_cell BK0.out 3).trans rfl, (blk_cell BK0.out 4).trans rfl⟩ (fun hHeld => ?_)
         clear hK K
         refine norm_ (a' := ?_) ?_ ?_
         rotate_left
         ·show Act.put _ (some 88) _ = _
          simp only [Act.put, List.setIfInBounds_toArray, List.set_cons_zero, List.set_cons_succ, i64_w, i32_w]
          rfl
         refine puz_ 9 (some 89) (nb_ 13 1023) rfl rfl (any_of HT_.out (by kernel_rfl)) ?_
         refine puz_ 10 (some 90) (nb_ 13 2047) rfl rfl (any_of HT_.out (by kernel_rfl)) ?_
         refine last_ (i := 11) (N := some 91) (nb_ 13 4095) rfl rfl (one_of HT_.out (by kernel_rfl)) (by decide) (fun K hK => ?_)
         refine goes_ Try.func46 (by kernel_rfl) rfl #[.pointer (some ⟨g0, 0, none⟩)] (by rfl) rfl rfl mp_ ?_
         with_reducible refine (ih k1 (by have := HK1.out; omega) g0 A0_0 c0_0 l0_0 a0_1 a0_2 (wrap64 (x1003_1 + 1)) (fun k_ => some k_ = (.slice Ao40 y211.length co40 : Value).ownBlock) (.slice Ao40 y211.length co40) y211 false t216 t217 w0 _ ?side1 ?side2 ?side3 ?side4 ?side5 ?side6 A18.out).mono ?_
         (case side1 => repeat (first | (with_reducible first | exact HB.out | apply below_alloc | apply pw_below_drewN | apply below_drew1 | refine below_set ?_ GE0.out) | exact HB.out))
         (case side2 => exact by (with_reducible repeat (first | refine blk_drewN ?_ _ | refine blk_drew ?_ | refine blk_alloc ?_ _)); exact BK0.out)
         (case side3 => exact GE0.out)
         (case side4 => exact Kd.C_kept_call HR0_0.out (by repeat (first | (with_reducible first | exact HK.out | apply Kept.alloc | apply Kept.drewN | apply Kept.drew | refine Kept.setCell ?_ (.inl (.inr rfl)) _) | exact HK.out)) (fun k_ hs_ => Or.elim hs_ (fun hs_ => (fun e_ => Or.imp_left Or.inl ((HO213.out.1 k_ e_.symm))) hs_) (fun e_ => .inl (.inr e_))))
         (case side5 => exact HC0_0.out)
         (case side6 => exact Kd.R_tight rfl HO213.out)
         rintro e w45 ⟨v218, rfl, hbx, ho0, hb, hkp⟩
         refine ⟨_, rfl, ?_⟩
         have n0_ := Aside0.mk (hbx)
         have n1_ := Aside0.mk (Kd.R_mono (ok' := fun k_ => (P0_4_ k_ ∨ w.heap.size ≤ k_)) ho0 (fun k_ hk_ => Or.elim hk_ (fun hs_ => (HO213.out.1 k_ (hs_).symm)) (fun hn_ => (.inr (Nat.le_trans (by first | exact HK.out.1 | exact (show Kept w _ (fun k_ => (P0_4_ k_) ∨ k_ = g0) from by repeat (first | (with_reducible first | exact HK.out | apply Kept.alloc | apply Kept.drewN | apply Kept.drew | refine Kept.setCell ?_ (.inl (.inr rfl)) _) | exact HK.out)).1) hn_)))))
         have n2_ := Aside0.mk (Kept.then_ (w := w) (S := (fun k_ => (P0_4_ k_) ∨ k_ = g0)) (by repeat (first | (with_reducible first | exact HK.out | apply Kept.alloc | apply Kept.drewN | apply Kept.drew | refine Kept.setCell ?_ (.inl (.inr rfl)) _) | exact HK.out)) hkp (fun k_ hs_ => Or.elim hs_ (fun hs_ => (fun e_ => Or.imp_left Or.inl ((HO213.out.1 k_ e_.symm))) hs_) (fun e_ => .inl (.inr e_))))
         have n3_ := Aside0.mk (hb)
         clear BK0
         clear HK
         clear HB
         clear HO213
         have BK0 := n0_
         have HO219 := n1_
         have HK := n2_
         have HB := n3_
         clear n0_ n1_ n2_ n3_
         (try clear hb)
         (try clear hkp)
         (try clear ho0)
         refine hK.out _ _ ?_
         clear hK K
         refine norm_ (a' := ?_) ?_ ?_
         rotate_left
         ·show Act.put _ (some 91) _ = _
          simp only [Act.put, List.setIfInBounds_toArray, List.set_cons_zero, List.set_cons_succ, i64_w, i32_w]
          rfl
         refine puz_ 12 (some 92) (nb_ 13 8191) rfl rfl (any_of HT_.out (by kernel_rfl)) ?_
         refine done_ (done_of HT_.out (by kernel_rfl)) ?_
         try go_wp2
         go_roundg k1
         case measure => have := HK1.out; omega
         case rel => exact ⟨(wrap64 (x28_1 + 1)), (t216), (t217), (v218), rs_, H', ⟨by have := HK1.out; omega⟩, ⟨ra_ HO219.out⟩, ⟨bk_ BK0.out⟩, ⟨by repeat (first | (with_reducible first | exact HK.out | apply Kept.alloc | apply Kept.drewN | apply Kept.drew | refine Kept.setCell ?_ (.inl (.inr rfl)) _) | exact HK.out)⟩, ⟨bl1_ HB.out GE0.out⟩⟩
       ·replace c17 := Bool.eq_false_iff.mpr c17
        subst c17
        have H1 : (impl_packer_search.l0 k1 (l0_4.length : Int) (wrap64 ((wrap64 (a0_1 + 1)) * (wrap64 (a0_1 + 1)))) (wrap64 (x28_1 + 1)) l0_0 a0_1 a0_2 (wrap64 (x1003_1 + 1)) y211) = some (r1, r2, r3) := by rw [if_neg (show ¬ (false = true) by decide)] at H; exact H
        clear H
        have H := H1
        clear H1
        have H' := Aside0.mk H
        clear H
        try go_wp2
        have n0_ := Aside0.mk (Kd.R_drew HO_1004.out)
        have n1_ := Aside0.mk (blk_drew BK0.out)
        have n2_ := Aside0.mk (Kept.drew HK.out)
        have n3_ := Aside0.mk (below_drew1 HB.out)
        clear HO_1004
        clear BK0
        clear HK
        clear HB
        have HO_1004 := n0_
        have BK0 := n1_
        have HK := n2_
        have HB := n3_
        clear n0_ n1_ n2_ n3_
        refine start_ (n := 9) (S := fun w' => w'.cell? ⟨g0, 0, none⟩ = some (.slice A0_0 l0_0.length c0_0) ∧ w'.cell? ⟨g0, 1, none⟩ = some (.int .i64 a0_1) ∧ w'.cell? ⟨g0, 2, none⟩ = some (.int .i64 a0_2) ∧ w'.cell? ⟨g0, 3, none⟩ = some (.int .i64 x1003_1) ∧ w'.cell? ⟨g0, 4, none⟩ = some (u1004)) (ds := []) (nb_ 9 0) (by kernel_rfl) rfl rfl ⟨(blk_cell BK0.out 0).trans rfl, (blk_cell BK0.out 1).trans rfl, (blk_cell BK0.out 2).trans rfl, (blk_cell BK0.out 3).trans rfl, (blk_cell BK0.out 4).trans rfl⟩ (fun hHeld => ?_); refine with_tabW impl_packer_search.tab7 impl_packer_search.bits7 (fun HT_ HW_ => ?_)
        generalize wr.drew = w46 at HO_1004 BK0 HK HB hHeld ⊢
        refine puz_ 0 (some 31) (nb_ 9 1) rfl rfl (any_of HT_.out (by kernel_rfl)) ?_
        refine puz_ 1 (some 32) (nb_ 9 3) rfl rfl (any_of HT_.out (by kernel_rfl)) ?_
        refine puz_ 2 (some 33) (nb_ 9 7) rfl rfl (any_of HT_.out (by kernel_rfl)) ?_
        refine puz_ 4 (some 35) (nb_ 9 23) rfl rfl (any_of HT_.out (by kernel_rfl)) ?_
        refine puz_ 5 (some 36) (nb_ 9 55) rfl rfl (any_of HT_.out (by kernel_rfl)) ?_
        refine puz_ 6 (some 37) (nb_ 9 119) rfl rfl (any_of HT_.out (by kernel_rfl)) ?_
        refine tkz_ 3 (some 34) (nb_ 9 127) rfl rfl (take_ofW HT_.out HW_.out (by kernel_rfl)) hHeld ?_
        refine tkz_ 7 (some 38) (nb_ 9 255) rfl rfl (take_ofW HT_.out HW_.out (by kernel_rfl)) hHeld ?_
        refine puz_ 8 (some 39) (nb_ 9 511) rfl rfl (any_of HT_.out (by kernel_rfl)) ?_
        refine done_ (done_of HT_.out (by kernel_rfl)) ?_
        obtain ⟨hcz47_0, hcz47_1, hcz47_2, hcz47_3, hcz47_4, hfz47_0, hfz47_1, hfz47_2, hfz47_3, hfz47_4⟩ := cz5_ BK0.out
        try go_wp2
        have n0_ : Aside0 (Kd.R k37 37 (w46.setCell ⟨g0, 3, none⟩ (.int .i64 (wrap64 (x1003_1 + 1)))) w0.heap.size (fun k_ => (P0_4_ k_ ∨ w.heap.size ≤ k_)) u1004 x1004_1) := ⟨by (with_reducible repeat (first | apply Kd.R_alloc | apply Kd.R_drewN | apply Kd.R_drew)); exact Kd.R_mono (Kd.R_far (p := ⟨g0, 3, none⟩) (Kd.R_types HO_1004.out BK0.out (by decide)) (fun _ hk => hk.2) (.int .i64 (wrap64 (x1003_1 + 1)))) (fun _ hk => hk.1)⟩
        have n1_ : Aside0 ((w46.setCell ⟨g0, 3, none⟩ (.int .i64 (wrap64 (x1003_1 + 1)))).heap[g0]? = some (.cells #[.slice A0_0 l0_0.length c0_0, .int .i64 a0_1, .int .i64 a0_2, .int .i64 (wrap64 (x1003_1 + 1)), u1004] 85 (0, 0))) := ⟨by (with_reducible repeat (first | refine blk_drewN ?_ _ | refine blk_drew ?_ | refine blk_alloc ?_ _)); refine blk_put (cs := #[.slice A0_0 l0_0.length c0_0, .int .i64 a0_1, .int .i64 a0_2, .int .i64 x1003_1, u1004]) ?_ 3 _ rfl; (with_reducible repeat (first | refine blk_drewN ?_ _ | refine blk_drew ?_ | refine blk_alloc ?_ _)); exact BK0.out⟩
        have n2_ : Aside0 (Kept w (w46.setCell ⟨g0, 3, none⟩ (.int .i64 (wrap64 (x1003_1 + 1)))) (fun k_ => (P0_4_ k_) ∨ k_ = g0)) := ⟨by repeat (first | (with_reducible first | exact HK.out | apply Kept.alloc | apply Kept.drewN | apply Kept.drew | refine Kept.setCell ?_ (.inl (.inr rfl)) _) | exact HK.out)⟩
        have n3_ : Aside0 (Below w0.heap.size w0 (w46.setCell ⟨g0, 3, none⟩ (.int .i64 (wrap64 (x1003_1 + 1))))) := ⟨bl1_ HB.out GE0.out⟩
        (try clear HO_1004)
        (try clear BK0)
        (try clear HK)
        (try clear HB)
        generalize (w46.setCell ⟨g0, 3, none⟩ (.int .i64 (wrap64 (x1003_1 + 1)))) = w48 at n0_ n1_ n2_ n3_ ⊢
        have HO_1004 := n0_
        have BK0 := n1_
        have HK := n2_
        have HB := n3_
        clear n0_ n1_ n2_ n3_
        have n0_ := Aside0.mk (Kd.R_drew HO_1004.out)
        have n1_ := Aside0.mk (blk_drew BK0.out)
        have n2_ := Aside0.mk (Kept.drew HK.out)
        have n3_ := Aside0.mk (below_drew1 HB.out)
        clear HO_1004
        clear BK0
        clear HK
        clear HB
        have HO_1004 := n0_
        have BK0 := n1_
        have HK := n2_
        have HB := n3_
        clear n0_ n1_ n2_ n3_
        obtain ⟨Ao50, co50, eo50⟩ := Kd.R_slice HO_1004.out
        (first | subst eo50 | (injection eo50 with f1_ f2_ f3_; have f4_ := f1_.symm; have f5_ := f3_.symm; clear f1_ f2_ f3_; subst f4_; subst f5_))
        have q51 : ((l0_4.length : Int) : Int) ≤ ((x1004_1.length : Int) : Int) := od_
        obtain ⟨i051, hi051, _, hsz51, _⟩ := info_parts info37
        have hcut51 := cut_to (P := Try.prog) 29 37 .i64 Try.underlying29 hi051 Ao50 x1004_1.length co50 (l0_4.length : Int) (od_) q51 (Kd.R_reads' HO_1004.out).2.1
        have hr51 := Kd.R_take (m := ((l0_4.length : Int) : Int).toNat) HO_1004.out (by omega)
        have hy51 : y208.length = ((l0_4.length : Int) : Int).toNat := (by rw [Ny208.out, List.length_take]; omega)
        rw [← Ny208.out] at hr51
        rw [← hy51] at hr51 hcut51
        clear hy51 hi051 hsz51 HO_1004
        have HO210 := Aside0.mk hr51
        clear hr51
        replace q51 := eq_true q51
        refine start_ (n := 27) (S := fun w' => w'.cell? ⟨g0, 0, none⟩ = some (.slice A0_0 l0_0.length c0_0) ∧ w'.cell? ⟨g0, 1, none⟩ = some (.int .i64 a0_1) ∧ w'.cell? ⟨g0, 2, none⟩ = some (.int .i64 a0_2) ∧ w'.cell? ⟨g0, 3, none⟩ = some (.int .i64 (wrap64 (x1003_1 + 1))) ∧ w'.cell? ⟨g0, 4, none⟩ = some (.slice Ao50 x1004_1.length co50)) (ds := [26]) (nb_ 27 0) (by kernel_rfl) rfl rfl ⟨(blk_cell BK0.out 0).trans rfl, (blk_cell BK0.out 1).trans rfl, (blk_cell BK0.out 2).trans rfl, (blk_cell BK0.out 3).trans rfl, (blk_cell BK0.out 4).trans rfl⟩ (fun hHeld => ?_); refine with_tabW impl_packer_search.tab11 impl_packer_search.bits11 (fun HT_ HW_ => ?_)
        generalize w48.drew = w49 at BK0 HK HB HO210 hHeld ⊢
        refine puz_ 0 (some 54) (nb_ 27 1) rfl rfl (any_of HT_.out (by kernel_rfl)) ?_
        refine puz_ 1 (some 55) (nb_ 27 3) rfl rfl (any_of HT_.out (by kernel_rfl)) ?_
        refine puz_ 2 (some 56) (nb_ 27 7) rfl rfl (any_of HT_.out (by kernel_rfl)) ?_
        refine puz_ 3 (some 57) (nb_ 27 15) rfl rfl (any_of HT_.out (by kernel_rfl)) ?_
        refine puz_ 5 (some 59) (nb_ 27 47) rfl rfl (any_of HT_.out (by kernel_rfl)) ?_
        refine puz_ 7 (some 61) (nb_ 27 175) rfl rfl (any_of HT_.out (by kernel_rfl)) ?_
        refine puz_ 8 (some 62) (nb_ 27 431) rfl rfl (any_of HT_.out (by kernel_rfl)) ?_
        refine puz_ 9 (some 63) (nb_ 27 943) rfl rfl (any_of HT_.out (by kernel_rfl)) ?_
        refine puz_ 10 (some 64) (nb_ 27 1967) rfl rfl (any_of HT_.out (by kernel_rfl)) ?_
        refine puz_ 14 (some 68) (nb_ 27 18351) rfl rfl (any_of HT_.out (by kernel_rfl)) ?_
        refine puz_ 15 (some 69) (nb_ 27 51119) rfl rfl (any_of HT_.out (by kernel_rfl)) ?_
        refine puz_ 16 (some 70) (nb_ 27 116655) rfl rfl (any_of HT_.out (by kernel_rfl)) ?_
        refine puz_ 17 (some 71) (nb_ 27 247727) rfl rfl (any_of HT_.out (by kernel_rfl)) ?_
        refine tkz_ 4 (some 58) (nb_ 27 247743) rfl rfl (take_ofW HT_.out HW_.out (by kernel_rfl)) hHeld ?_
        refine puz_ 6 (some 60) (nb_ 27 247807) rfl rfl (any_of HT_.out (by kernel_rfl)) ?_
        refine tkz_ 11 (some 65) (nb_ 27 249855) rfl rfl (take_ofW HT_.out HW_.out (by kernel_rfl)) hHeld ?_
        refine puz_ 12 (some 66) (nb_ 27 253951) rfl rfl (any_of HT_.out (by kernel_rfl)) ?_
        refine puz_ 13 (some 67) (nb_ 27 262143) rfl rfl (any_of HT_.out (by kernel_rfl)) ?_
        refine tkz_ 18 (some 72) (nb_ 27 524287) rfl rfl (take_ofW HT_.out HW_.out (by kernel_rfl)) hHeld ?_
        refine puz_ 19 (some 73) (nb_ 27 1048575) rfl rfl (any_of HT_.out (by kernel_rfl)) ?_
        refine puz_ 20 (some 74) (nb_ 27 2097151) rfl rfl (any_of HT_.out (by kernel_rfl)) ?_
        refine puz_ 21 (some 75) (nb_ 27 4194303) rfl rfl (any_of HT_.out (by kernel_rfl)) ?_
        refine one_ (i := 22) (N := some 76) (nb_ 27 8388607) rfl rfl (one_of HT_.out (by kernel_rfl)) (by decide) (fun K hK => ?_)
        refine value_ (w1 := ?_) (v := ?_) (by rfl) rfl ?_ ?_
        rotate_left 2
        ·go_simp
         constructor
         ·rfl
         ·rfl
        refine hK.out _ _ ⟨(blk_cell (blk_alloc BK0.out _) 0).trans rfl, (blk_cell (blk_alloc BK0.out _) 1).trans rfl, (blk_cell (blk_alloc BK0.out _) 2).trans rfl, (blk_cell (blk_alloc BK0.out _) 3).trans rfl, (blk_cell (blk_alloc BK0.out _) 4).trans rfl⟩ (fun hHeld => ?_)
        clear hK K
        refine norm_ (a' := ?_) ?_ ?_
        rotate_left
        ·show Act.put _ (some 76) _ = _
         simp only [Act.put, List.setIfInBounds_toArray, List.set_cons_zero, List.set_cons_succ, i64_w, i32_w]
         rfl
        refine one_ (i := 23) (N := some 77) (nb_ 27 16777215) rfl rfl (one_of HT_.out (by kernel_rfl)) (by decide) (fun K hK => ?_)
        refine Kd.R_append_step k37 (w0 := w0) w0.heap.size (by rfl) (.tmp 60) (.tmp 76) 29 37 (.agg #[(.int .i64 0), (.int .i64 0)]) 16 rfl Try.underlying29 info37 rfl (by decide) (by omega) (.slice Ao50 y208.length co50) y208 (⟨wrap64 (Int.tdiv x28_1 (wrap64 (a0_1 + 1))), Int.tmod x28_1 (wrap64 (a0_1 + 1))⟩ : S37) [.int .i64 (wrap64 (Int.tdiv x28_1 (wrap64 (a0_1 + 1)))), .int .i64 (Int.tmod x28_1 (wrap64 (a0_1 + 1)))] (fun k_ => (P0_4_ k_ ∨ w.heap.size ≤ k_)) (fun _ => False) rfl rfl ?aP (fun _ hk => hk.elim) ?aF ?aO ?aB ?aS ?aL ?_
        (case aP => exact k37_mkM _ _ _ (⟨wrap64 (Int.tdiv x28_1 (wrap64 (a0_1 + 1))), Int.tmod x28_1 (wrap64 (a0_1 + 1))⟩ : S37))
        (case aB => exact (bl1_ HB.out GE0.out))
        (case aF => exact (fun k_ hk => (.inr (Nat.le_trans (by first | exact HK.out.1 | exact (show Kept w _ (fun k_ => (P0_4_ k_) ∨ k_ = g0) from by repeat (first | (with_reducible first | exact HK.out | apply Kept.alloc | apply Kept.drewN | apply Kept.drew | refine Kept.setCell ?_ (.inl (.inr rfl)) _) | exact HK.out)).1) hk))))
        (case aO => exact (ra_ HO210.out))
        (case aS => exact (below_size (bl1_ HB.out GE0.out)))
        (case aL => have := LMc15.out; omega)
        intro v212 w52 ho hb hg hat
        rw [← Ny211.out] at ho
        have n0_ := Aside0.mk (blk_grown (g := g0) (o := .cells #[.slice A0_0 l0_0.length c0_0, .int .i64 a0_1, .int .i64 a0_2, .int .i64 (wrap64 (x1003_1 + 1)), .slice Ao50 x1004_1.length co50] 85 (0, 0)) (bk_ BK0.out) hg (Kd.R_ne HO210.out BK0.out (by decide)))
        have n1_ := Aside0.mk (hb)
        have n2_ := Aside0.mk (Kept.of_grown (w := w) (S := (fun k_ => (P0_4_ k_) ∨ k_ = g0)) hg (by repeat (first | (with_reducible first | exact HK.out | apply Kept.alloc | apply Kept.drewN | apply Kept.drew | refine Kept.setCell ?_ (.inl (.inr rfl)) _) | exact HK.out)) (fun k_ e_ => Or.imp_left Or.inl ((HO210.out.1 k_ e_))))
        have n3_ := Aside0.mk (ho)
        clear BK0
        clear HB
        clear HK
        clear HO210
        have BK0 := n0_
        have HB := n1_
        have HK := n2_
        have HO213 := n3_
        clear n0_ n1_ n2_ n3_
        clear ho hb hg hat
        obtain ⟨Ao53, co53, eo53⟩ := Kd.R_slice HO213.out
        (first | subst eo53 | (injection eo53 with f1_ f2_ f3_; have f4_ := f1_.symm; have f5_ := f3_.symm; clear f1_ f2_ f3_; subst f4_; subst f5_))
        refine hK.out _ _ ⟨(blk_cell BK0.out 0).trans rfl, (blk_cell BK0.out 1).trans rfl, (blk_cell BK0.out 2).trans rfl, (blk_cell BK0.out 3).trans rfl, (blk_cell BK0.out 4).trans rfl⟩ (fun hHeld => ?_)
        clear hK K
        refine norm_ (a' := ?_) ?_ ?_
        rotate_left
        ·show Act.put _ (some 77) _ = _
         simp only [Act.put, List.setIfInBounds_toArray, List.set_cons_zero, List.set_cons_succ, i64_w, i32_w]
         rfl
        refine puz_ 24 (some 78) (nb_ 27 33554431) rfl rfl (any_of HT_.out (by kernel_rfl)) ?_
        refine puz_ 25 (some 79) (nb_ 27 67108863) rfl rfl (any_of HT_.out (by kernel_rfl)) ?_
        refine last_ (i := 26) (N := none) (nb_ 27 134217727) rfl rfl (one_of HT_.out (by kernel_rfl)) (by decide) (fun K hK => ?_)
        have hs54 : w52.cell? ⟨g0, 4, none⟩ = some (.slice Ao50 x1004_1.length co50) := (blk_cell BK0.out 4).trans rfl
        have hfs54 := blk_frozen BK0.out 4
        refine skip_ (w1 := ?_) (by rfl) rfl ?_ ?_
        rotate_left
        ·go_simp
         rfl
        refine hK.out _ _ ?_
        clear hK K
        refine done_ (done_of HT_.out (by kernel_rfl)) ?_
        try go_wp2
        have n0_ : Aside0 (Kd.R k37 37 (w52.setCell ⟨g0, 4, none⟩ (.slice Ao53 y211.length co53)) w0.heap.size (fun k_ => (P0_4_ k_ ∨ w.heap.size ≤ k_)) (.slice Ao53 y211.length co53) y211) := ⟨by (with_reducible repeat (first | apply Kd.R_alloc | apply Kd.R_drewN | apply Kd.R_drew)); exact Kd.R_mono (Kd.R_far (p := ⟨g0, 4, none⟩) (Kd.R_types HO213.out BK0.out (by decide)) (fun _ hk => hk.2) (.slice Ao53 y211.length co53)) (fun _ hk => hk.1)⟩
        have n1_ : Aside0 ((w52.setCell ⟨g0, 4, none⟩ (.slice Ao53 y211.length co53)).heap[g0]? = some (.cells #[.slice A0_0 l0_0.length c0_0, .int .i64 a0_1, .int .i64 a0_2, .int .i64 (wrap64 (x1003_1 + 1)), .slice Ao53 y211.length co53] 85 (0, 0))) := ⟨by (with_reducible repeat (first | refine blk_drewN ?_ _ | refine blk_drew ?_ | refine blk_alloc ?_ _)); refine blk_put (cs := #[.slice A0_0 l0_0.length c0_0, .int .i64 a0_1, .int .i64 a0_2, .int .i64 (wrap64 (x1003_1 + 1)), .slice Ao50 x1004_1.length co50]) ?_ 4 _ rfl; (with_reducible repeat (first | refine blk_drewN ?_ _ | refine blk_drew ?_ | refine blk_alloc ?_ _)); exact BK0.out⟩
        have n2_ : Aside0 (Kept w (w52.setCell ⟨g0, 4, none⟩ (.slice Ao53 y211.length co53)) (fun k_ => (P0_4_ k_) ∨ k_ = g0)) := ⟨by repeat (first | (with_reducible first | exact HK.out | apply Kept.alloc | apply Kept.drewN | apply Kept.drew | refine Kept.setCell ?_ (.inl (.inr rfl)) _) | exact HK.out)⟩
        have n3_ : Aside0 (Below w0.heap.size w0 (w52.setCell ⟨g0, 4, none⟩ (.slice Ao53 y211.length co53))) := ⟨bl1_ HB.out GE0.out⟩
        (try clear HO213)
        (try clear BK0)
        (try clear HK)
        (try clear HB)
        generalize (w52.setCell ⟨g0, 4, none⟩ (.slice Ao53 y211.length co53)) = w55 at n0_ n1_ n2_ n3_ ⊢
        have HO213 := n0_
        have BK0 := n1_
        have HK := n2_
        have HB := n3_
        clear n0_ n1_ n2_ n3_
        have n0_ := Aside0.mk (Kd.R_drew HO213.out)
        have n1_ := Aside0.mk (blk_drew BK0.out)
        have n2_ := Aside0.mk (Kept.drew HK.out)
        have n3_ := Aside0.mk (below_drew1 HB.out)
        clear HO213
        clear BK0
        clear HK
        clear HB
        have HO213 := n0_
        have BK0 := n1_
        have HK := n2_
        have HB := n3_
        clear n0_ n1_ n2_ n3_
        refine start_ (n := 13) (S := fun w' => w'.cell? ⟨g0, 0, none⟩ = some (.slice A0_0 l0_0.length c0_0) ∧ w'.cell? ⟨g0, 1, none⟩ = some (.int .i64 a0_1) ∧ w'.cell? ⟨g0, 2, none⟩ = some (.int .i64 a0_2) ∧ w'.cell? ⟨g0, 3, none⟩ = some (.int .i64 (wrap64 (x1003_1 + 1))) ∧ w'.cell? ⟨g0, 4, none⟩ = some (.slice Ao53 y211.length co53)) (ds := []) (nb_ 13 0) (by kernel_rfl) rfl rfl ⟨(blk_cell BK0.out 0).trans rfl, (blk_cell BK0.out 1).trans rfl, (blk_cell BK0.out 2).trans rfl, (blk_cell BK0.out 3).trans rfl, (blk_cell BK0.out 4).trans rfl⟩ (fun hHeld => ?_); refine with_tabW impl_packer_search.tab12 impl_packer_search.bits12 (fun HT_ HW_ => ?_)
        generalize w55.drew = w56 at HO213 BK0 HK HB hHeld ⊢
        refine puz_ 0 (some 80) (nb_ 13 1) rfl rfl (any_of HT_.out (by kernel_rfl)) ?_
        refine puz_ 1 (some 81) (nb_ 13 3) rfl rfl (any_of HT_.out (by kernel_rfl)) ?_
        refine puz_ 2 (some 82) (nb_ 13 7) rfl rfl (any_of HT_.out (by kernel_rfl)) ?_
        refine puz_ 4 (some 84) (nb_ 13 23) rfl rfl (any_of HT_.out (by kernel_rfl)) ?_
        refine puz_ 5 (some 85) (nb_ 13 55) rfl rfl (any_of HT_.out (by kernel_rfl)) ?_
        refine puz_ 6 (some 86) (nb_ 13 119) rfl rfl (any_of HT_.out (by kernel_rfl)) ?_
        refine tkz_ 3 (some 83) (nb_ 13 127) rfl rfl (take_ofW HT_.out HW_.out (by kernel_rfl)) hHeld ?_
        refine tkz_ 7 (some 87) (nb_ 13 255) rfl rfl (take_ofW HT_.out HW_.out (by kernel_rfl)) hHeld ?_
        refine one_ (i := 8) (N := some 88) (nb_ 13 511) rfl rfl (one_of HT_.out (by kernel_rfl)) (by decide) (fun K hK => ?_)
        refine goes_ Try.func30 (by kernel_rfl) rfl #[.slice A0_0 l0_0.length c0_0, .slice Ao53 y211.length co53] (by rfl) rfl rfl mp_ ?_
        with_reducible refine (impl_isApart.calls k1 _ _ l0_0 _ _ y211 false _ ?side1 ?side2 ?side3 ?side4 A16.out).mono ?_
        (case side1 => exact Kd.C_kept_now HR0_0.out (by repeat (first | (with_reducible first | exact HK.out | apply Kept.alloc | apply Kept.drewN | apply Kept.drew | refine Kept.setCell ?_ (.inl (.inr rfl)) _) | exact HK.out)))
        (case side2 => exact HC0_0.out)
        (case side3 => exact ca_ (Kd.R_reads' HO213.out).2.2)
        (case side4 => exact (Kd.R_reads' HO213.out).2.1)
        rintro e w57 ⟨rfl, hb⟩
        refine ⟨_, rfl, ?_⟩
        have n0_ := Aside0.mk (Kd.R_below (ra_ HO213.out) hb)
        have n1_ := Aside0.mk (blk_below (g := g0) (o := .cells #[.slice A0_0 l0_0.length c0_0, .int .i64 a0_1, .int .i64 a0_2, .int .i64 (wrap64 (x1003_1 + 1)), .slice Ao53 y211.length co53] 85 (0, 0)) (bk_ BK0.out) hb)
        have n2_ := Aside0.mk (Kept.below (w := w) (S := (fun k_ => (P0_4_ k_) ∨ k_ = g0)) (by repeat (first | (with_reducible first | exact HK.out | apply Kept.alloc | apply Kept.drewN | apply Kept.drew | refine Kept.setCell ?_ (.inl (.inr rfl)) _) | exact HK.out)) hb)
        have n3_ := Aside0.mk (below_step (bl1_ HB.out GE0.out) hb)
        clear HO213
        clear BK0
        clear HK
        clear HB
        have HO213 := n0_
        have BK0 := n1_
        have HK := n2_
        have HB := n3_
        clear n0_ n1_ n2_ n3_
        (try clear hb)
        (try clear hb2)
        (try clear hk)
        (try clear hi)
        refine hK.out _ _ ⟨(blk_cell BK0.out 0).trans rfl, (blk_cell BK0.out 1).trans rfl, (blk_cell BK0.out 2).trans rfl, (blk_cell BK0.out 3).trans rfl, (blk_cell BK0.out 4).trans rfl⟩ (fun hHeld => ?_)
        clear hK K
        refine norm_ (a' := ?_) ?_ ?_
        rotate_left
        ·show Act.put _ (some 88) _ = _
         simp only [Act.put, List.setIfInBounds_toArray, List.set_cons_zero, List.set_cons_succ, i64_w, i32_w]
         rfl
        refine puz_ 9 (some 89) (nb_ 13 1023) rfl rfl (any_of HT_.out (by kernel_rfl)) ?_
        refine puu_ 10 (some 90) (nb_ 13 2047) rfl rfl (any_of HT_.out (by kernel_rfl)) ?_
        refine puu_ 11 (some 91) (nb_ 13 4095) rfl rfl (any_of HT_.out (by kernel_rfl)) ?_
        refine puz_ 12 (some 92) (nb_ 13 8191) rfl rfl (any_of HT_.out (by kernel_rfl)) ?_
        refine done_ (done_of HT_.out (by kernel_rfl)) ?_
        try go_wp2
        go_roundg k1
        case measure => have := HK1.out; omega
        case rel => exact ⟨(wrap64 (x28_1 + 1)), (wrap64 (x1003_1 + 1)), (y211), (.slice Ao53 y211.length co53), rs_, H', ⟨by have := HK1.out; omega⟩, ⟨ra_ HO213.out⟩, ⟨bk_ BK0.out⟩, ⟨by repeat (first | (with_reducible first | exact HK.out | apply Kept.alloc | apply Kept.drewN | apply Kept.drew | refine Kept.setCell ?_ (.inl (.inr rfl)) _) | exact HK.out)⟩, ⟨bl1_ HB.out GE0.out⟩⟩
    ·rw [if_neg c8] at H
     have c8b0 := decide_eq_false c8
     clear c8
     by_cases c58 : 0 ≤ (l0_4.length : Int)
     rotate_left
     ·exact nope_ c58 H
     rw [if_pos c58] at H
     have c58b0 := eq_true c58
     have c58b1 := decide_eq_true c58
     clear c58
     by_cases c59 : (l0_4.length : Int) ≤ (x1004_1.length : Int)
     rotate_left
     ·exact nope_ c59 H
     rw [if_pos c59] at H
     have c59b0 := eq_true c59
     have c59b1 := decide_eq_true c59
     clear c59
     obtain ⟨y205, hy205⟩ : ∃ y_ : List (S37), y_ = (x1004_1.take ((l0_4.length : Int) : Int).toNat) := ⟨_, rfl⟩
     replace H : (some (false, x1003_1, y205)) = some (r1, r2, r3) := yh_ H hy205
     have Ny205 := Aside0.mk hy205
     clear hy205
     simp only [Option.some.injEq, Prod.mk.injEq] at H
     obtain ⟨rfl, rfl, rfl⟩ := H
     obtain ⟨hcz60_0, hcz60_1, hcz60_2, hcz60_3, hcz60_4, hfz60_0, hfz60_1, hfz60_2, hfz60_3, hfz60_4⟩ := cz5_ BK0.out
     obtain ⟨Ao61, co61, eo61⟩ := Kd.R_slice HO_1004.out
     subst eo61
     have q62 : ((l0_4.length : Int) : Int) ≤ ((x1004_1.length : Int) : Int) := od_
     obtain ⟨i062, hi062, _, hsz62, _⟩ := info_parts info37
     have hcut62 := cut_to (P := Try.prog) 29 37 .i64 Try.underlying29 hi062 Ao61 x1004_1.length co61 (l0_4.length : Int) (od_) q62 (Kd.R_reads' HO_1004.out).2.1
     have hr62 := Kd.R_take (m := ((l0_4.length : Int) : Int).toNat) HO_1004.out (by omega)
     have hy62 : y205.length = ((l0_4.length : Int) : Int).toNat := (by rw [Ny205.out, List.length_take]; omega)
     rw [← Ny205.out] at hr62
     rw [← hy62] at hr62 hcut62
     clear hy62 hi062 hsz62 HO_1004
     have HO207 := Aside0.mk hr62
     clear hr62
     replace q62 := eq_true q62
     go_wp2
     go_ret
     exact ⟨(.slice Ao61 y205.length co61), by first | rfl | (simp [errW_none, errW_some] <;> rfl) | (simp [*, errW_none, errW_some] <;> rfl), by (with_reducible repeat (first | refine blk_drewN ?_ _ | refine blk_drew ?_ | refine blk_alloc ?_ _)); refine blk_put (cs := #[.slice A0_0 l0_0.length c0_0, .int .i64 a0_1, .int .i64 a0_2, .int .i64 x1003_1, .slice Ao61 x1004_1.length co61]) ?_ 4 _ rfl; (with_reducible repeat (first | refine blk_drewN ?_ _ | refine blk_drew ?_ | refine blk_alloc ?_ _)); exact BK0.out, by (with_reducible repeat (first | apply Kd.R_alloc | apply Kd.R_drewN | apply Kd.R_drew)); exact Kd.R_mono (Kd.R_far (p := ⟨g0, 4, none⟩) (Kd.R_types HO207.out BK0.out (by decide)) (fun _ hk => hk.2) (.slice Ao61 y205.length co61)) (fun _ hk => hk.1), by repeat (first | (with_reducible first | exact HB.out | apply below_alloc | apply pw_below_drewN | apply below_drew1 | refine below_set ?_ GE0.out) | exact HB.out), by repeat (first | (with_reducible first | exact HK.out | apply Kept.alloc | apply Kept.drewN | apply Kept.drew | refine Kept.setCell ?_ (.inl (.inr rfl)) _) | exact HK.out)⟩

end Go.Proofs.Ytmckbecegiegaaa.A
