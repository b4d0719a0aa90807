/- For functions of the translation: a Lean function each, and that the call of the Go function comes to its answer. Written by this session's own program (myprint.py, over the kit's printer). -/
import Derived.Test.YtmckbecegiegaaaAx0
import Derived.Test.YtmckbecegiegaaaAx12
--compacted
namespace Go.Proofs.Ytmckbecegiegaaa.A
open Go.RowKit Go.Proofs.YtmckbecegiegaaaW.PrintWords Go.Proofs.YtmckbecegiegaaaW.PrintLast Go.Proofs.YtmckbecegiegaaaW.PrintMore
attribute [local go_sem] max2_int min2_int max_two min_two max_three min_three max_four min_four   -- for this text's walks alone
set_option linter.unusedVariables false
set_option linter.unusedSimpArgs false

/-! ### spec_l30Search_fits: function 61 -/
def spec_l30Search_fits.l0 : Nat → Int → Int → List (List Int) → Int → Int → List (S37) → Bool → Int → Int → Option (Bool)
 | 0, _, _, _, _, _, _, _, _, _ => none
 | k + 1, x5, x6, x1000, x1001, x1002, x1003, x1004, x346000, x346001 => if x6 < x5 then (if 0 ≤ x6 then (if x6 < (x1003.length : Int) then ((spec_l30Square.f x346000 x346001 ((rd_T37 x1003 x6).f0) ((rd_T37 x1003 x6).f1)).bind fun t347 => (if 0 ≤ x5 then (if x5 < (x1000.length : Int) then (if x6 < ((rd_L2 x1000 x5).length : Int) then (if t347 < (wrap64 ((rd (rd_L2 x1000 x5) x6) * (rd (rd_L2 x1000 x5) x6))) then (some false) else (spec_l30Search_fits.l0 k x5 (wrap64 (x6 + 1)) x1000 x1001 x1002 x1003 x1004 x346000 x346001)) else (none)) else (none)) else (none))) else (none)) else (none)) else (some true)
def spec_l30Search_fits.f (k : Nat) (l0_0 : List (List Int)) (a0_1 : Int) (a0_2 : Int) (l0_3 : List (S37)) (a0_4 : Bool) (a1_0 : Int) (a1_1 : Int) : Option (Bool) := spec_l30Search_fits.l0 k (l0_3.length : Int) 0 l0_0 a0_1 a0_2 l0_3 a0_4 a1_0 a1_1
theorem spec_l30Search_fits.mono_l : ∀ k, (∀ y0 y1 y2 y3 y4 y5 y6 y7 y8, LeO (spec_l30Search_fits.l0 k y0 y1 y2 y3 y4 y5 y6 y7 y8) (spec_l30Search_fits.l0 (k + 1) y0 y1 y2 y3 y4 y5 y6 y7 y8))
 | 0 => fun _ _ _ _ _ _ _ _ _ r h => by simp [spec_l30Search_fits.l0] at h
 | k + 1 => by
  have ih0 := spec_l30Search_fits.mono_l k
  ·intro y0 y1 y2 y3 y4 y5 y6 y7 y8
   unfold spec_l30Search_fits.l0
   repeat' first
   | (with_reducible exact ih0 _ _ _ _ _ _ _ _ _)
   | (with_reducible exact LeO.refl _)
   | (with_reducible exact LeO.none _)
   | (with_reducible refine LeO.ite ?_ ?_)
   | (with_reducible refine LeO.bind ?_ (fun _ => ?_))
theorem spec_l30Search_fits.mono : ∀ a0 a1 a2 a3 a4 a5 a6 k, LeO (spec_l30Search_fits.f k a0 a1 a2 a3 a4 a5 a6) (spec_l30Search_fits.f (k + 1) a0 a1 a2 a3 a4 a5 a6) := by
 intro a0 a1 a2 a3 a4 a5 a6 k
 have ih0 := spec_l30Search_fits.mono_l k
 unfold spec_l30Search_fits.f
 repeat' first
   | (with_reducible exact ih0 _ _ _ _ _ _ _ _ _)
   | (with_reducible exact LeO.refl _)
   | (with_reducible exact LeO.none _)
   | (with_reducible refine LeO.ite ?_ ?_)
   | (with_reducible refine LeO.bind ?_ (fun _ => ?_))
def spec_l30Search_fits.T5 : Bool × List (List Nat × List Nat) := (true, [([], []), ([], []), ([1], [1]), ([2], [2]), ([3], [3]), ([], []), ([4, 5], [4, 5]), ([6], [6]), ([0, 7], [0, 7]), ([], []), ([9], [9]), ([10], [10]), ([11], [11]), ([], []), ([12, 13], [12, 13]), ([14], [14]), ([], []), ([15, 16], [15, 16]), ([17], [17]), ([], []), ([19], [19]), ([20], [20]), ([21], [21]), ([], []), ([22, 23], [22, 23]), ([24], [24]), ([], []), ([25, 26], [25, 26]), ([27], [27]), ([18, 28], [18, 28]), ([8, 29], [8, 29])])
def spec_l30Search_fits.B5 : List Nat := [0, 0, 2, 6, 14, 0, 62, 126, 255, 0, 512, 1536, 3584, 0, 15872, 32256, 0, 130560, 261632, 0, 524288, 1572864, 3670016, 0, 16252928, 33030144, 0, 133693440, 267911168, 536870400, 1073741823]
theorem spec_l30Search_fits.tab5 : rtab .any (opsOf Try.f61 5) = spec_l30Search_fits.T5 := by kernel_rfl
theorem spec_l30Search_fits.bits5 : waitsOk spec_l30Search_fits.T5.2 spec_l30Search_fits.B5 = true := by kernel_rfl
set_option maxHeartbeats 8000000 in
set_option maxRecDepth 100000 in
theorem spec_l30Search_fits.calls (k : Nat) (g0 : Nat) (A0_0 : Option Addr) (c0_0 : Nat) (l0_0 : List (List Int)) (a0_1 : Int) (a0_2 : Int) (A0_3 : Option Addr) (c0_3 : Nat) (l0_3 : List (S37)) (a0_4 : Bool) (a1_0 : Int) (a1_1 : Int) (r : Bool) (w : World) (hb0 : w.heap[g0]? = some (.cells #[.slice A0_0 l0_0.length c0_0, .int .i64 a0_1, .int .i64 a0_2, .slice A0_3 l0_3.length c0_3, .bool a0_4] 94 (0, 0))) (hr0_0 : Kd.C (Kd.slice 2 (Kd.int .i64)) w A0_0 l0_0.length l0_0) (hc0_0 : l0_0.length ≤ c0_0) (hr0_3 : Kd.C k37 w A0_3 l0_3.length l0_3) (hc0_3 : l0_3.length ≤ c0_3) (h : spec_l30Search_fits.f k l0_0 a0_1 a0_2 l0_3 a0_4 a1_0 a1_1 = some r) :
  Calls Try.prog 61 #[.pointer (some ⟨g0, 0, none⟩), .agg #[.int .i64 a1_0, .int .i64 a1_1]] w fun e w' => e = .returned (.bool r) ∧ Below w.heap.size w w' := by
 have hu37 := Try.underlying37
 have HR0_0 := Aside0.mk hr0_0
 have HC0_0 := Aside0.mk hc0_0
 clear hr0_0 hc0_0
 have HR0_3 := Aside0.mk hr0_3
 have HC0_3 := Aside0.mk hc0_3
 clear hr0_3 hc0_3
 have BK0 := Aside0.mk hb0
 clear hb0
 have HB := Aside0.mk (Below.refl w.heap.size w)
 have H : (spec_l30Search_fits.l0 k (l0_3.length : Int) 0 l0_0 a0_1 a0_2 l0_3 a0_4 a1_0 a1_1) = some r := h
 clear h
 have H' := Aside0.mk H
 clear H
 go_enter Try.func61, Try.ntmps61
 go_wp2_with (first | ((with_reducible refine gate_dst (N := 3) rfl ?_); refine box_event ?hg (N := 3) ?hd (cs := #[.int .i64 a1_0, .int .i64 a1_1]) (t := 37) ?hr ?_; (case hd => rfl); (case hg => rfl); (case hr => first | (go_simp; done) | (go_simp; rfl)); intro gb345 hg w3 hbox hb; have n0_ := Aside0.mk (blk_below (g := g0) (o := .cells #[.slice A0_0 l0_0.length c0_0, .int .i64 a0_1, .int .i64 a0_2, .slice A0_3 l0_3.length c0_3, .bool a0_4] 94 (0, 0)) (bk_ BK0.out) hb); have n1_ := Aside0.mk (below_step (bl0_ HB.out) hb); have n2_ := Aside0.mk (hbox); have n3_ := Aside0.mk ((by rw [hg]; exact (below_size (bl0_ HB.out)) : w.heap.size ≤ gb345)); have n4_ := Aside0.mk ((by rw [hg]; exact (below_size (bl0_ HB.out)) : w.heap.size ≤ gb345)); have n5_ := Aside0.mk ((by rw [hg]; exact Nat.ne_of_lt (blk_lt (g := g0) (o := .cells #[.slice A0_0 l0_0.length c0_0, .int .i64 a0_1, .int .i64 a0_2, .slice A0_3 l0_3.length c0_3, .bool a0_4] 94 (0, 0)) (bk_ BK0.out)) : g0 ≠ gb345)); have n6_ := Aside0.mk ((by rw [hg]; exact Nat.ne_of_gt (blk_lt (g := g0) (o := .cells #[.slice A0_0 l0_0.length c0_0, .int .i64 a0_1, .int .i64 a0_2, .slice A0_3 l0_3.length c0_3, .bool a0_4] 94 (0, 0)) (bk_ BK0.out)) : gb345 ≠ g0)); clear BK0; clear HB; have BK0 := n0_; have HB := n1_; have BK345 := n2_; have GW345 := n3_; have GE345 := n4_; have NB0_345 := n5_; have NB345_0 := n6_; clear n0_ n1_ n2_ n3_ n4_ n5_ n6_; clear hb hbox hg; have hnb4 := NB0_345.out; have hnc4 := NB345_0.out; obtain ⟨hcz5_0, hcz5_1, hcz5_2, hcz5_3, hcz5_4, hfz5_0, hfz5_1, hfz5_2, hfz5_3, hfz5_4⟩ := cz5_ BK0.out))
 go_loopg [6] k (fun kq v6 w' => ∃ (x6_1 : Int), v6 = .int .i64 x6_1 ∧ Aside0 (spec_l30Search_fits.l0 kq (l0_3.length : Int) x6_1 l0_0 a0_1 a0_2 l0_3 a0_4 a1_0 a1_1 = some r) ∧ Aside0 (kq ≤ k) ∧ Aside0 (w'.heap[g0]? = some (.cells #[(.slice A0_0 l0_0.length c0_0), .int .i64 a0_1, .int .i64 a0_2, (.slice A0_3 l0_3.length c0_3), .bool a0_4] 94 (0, 0))) ∧ Aside0 (w'.heap[gb345]? = some (.cells #[.int .i64 a1_0, .int .i64 a1_1] 37 (0, 0))) ∧ Aside0 (Below w.heap.size w w'))
 case atStart => exact ⟨(0), rs_, H', ⟨Nat.le_refl _⟩, ⟨bk_ BK0.out⟩, ⟨bk_ BK345.out⟩, ⟨bl1_ HB.out GE345.out⟩⟩
 case round =>
  clear H'
  try clear p2
  try clear c4
  try clear hcz5_0
  try clear hcz5_1
  try clear hcz5_2
  try clear hcz5_3
  try clear hcz5_4
  try clear hfz5_0
  try clear hfz5_1
  try clear hfz5_2
  try clear hfz5_3
  try clear hfz5_4
  obtain ⟨x6_1, rfl, HA, HK1, BK0, BK345, HB⟩ := hrel
  cases gk with
  | zero => exact absurd HA.out (by simp [spec_l30Search_fits.l0])
  | succ k1 =>
   have H := HA.out
   clear HA
   simp only [spec_l30Search_fits.l0] at H
   by_cases c6 : x6_1 < (l0_3.length : Int)
   ·rw [if_pos c6] at H
    have c6b0 := decide_eq_true c6
    clear c6
    by_cases c7 : 0 ≤ x6_1
    rotate_left
    ·exact nope_ c7 H
    rw [if_pos c7] at H
    have c7b0 := decide_eq_true c7
    clear c7
    by_cases c8 : x6_1 < (l0_3.length : Int)
    rotate_left
    ·exact nope_ c8 H
    rw [if_pos c8] at H
    have c8b0 := decide_eq_true c8
    clear c8
    replace H := Option.bind_eq_some_iff.mp H
    obtain ⟨t347, A90, H⟩ := H
    replace H : (if 0 ≤ (l0_3.length : Int) then (if (l0_3.length : Int) < (l0_0.length : Int) then (if x6_1 < ((rd_L2 l0_0 (l0_3.length : Int)).length : Int) then (if t347 < (wrap64 ((rd (rd_L2 l0_0 (l0_3.length : Int)) x6_1) * (rd (rd_L2 l0_0 (l0_3.length : Int)) x6_1))) then (some false) else (spec_l30Search_fits.l0 k1 (l0_3.length : Int) (wrap64 (x6_1 + 1)) l0_0 a0_1 a0_2 l0_3 a0_4 a1_0 a1_1)) else (none)) else (none)) else (none)) = some r := H
    have A9 := Aside0.mk A90
    clear A90
    by_cases c10 : 0 ≤ (l0_3.length : Int)
    rotate_left
    ·exact nope_ c10 H
    rw [if_pos c10] at H
    have c10b0 := decide_eq_true c10
    have c10b1 : decide (0 ≤ l0_3.length) = true := decide_eq_true (by omega)
    clear c10
    by_cases c11 : (l0_3.length : Int) < (l0_0.length : Int)
    rotate_left
    ·exact nope_ c11 H
    rw [if_pos c11] at H
    have c11b0 := decide_eq_true c11
    have c11b1 : decide (l0_3.length < l0_0.length) = true := decide_eq_true (Int.ofNat_lt.mp c11)
    clear c11
    by_cases c12 : x6_1 < ((rd_L2 l0_0 (l0_3.length : Int)).length : Int)
    rotate_left
    ·exact nope_ c12 H
    rw [if_pos c12] at H
    have c12b0 := decide_eq_true c12
    clear c12
    by_cases c13 : t347 < (wrap64 ((rd (rd_L2 l0_0 (l0_3.length : Int)) x6_1) * (rd (rd_L2 l0_0 (l0_3.length : Int)) x6_1)))
    ·rw [if_pos c13] at H
     have c13b0 := decide_eq_true c13
     clear c13
     obtain rfl := Option.some.inj H
     try go_wp2
     have n0_ := Aside0.mk (blk_drew BK0.out)
     have n1_ := Aside0.mk (blk_drew BK345.out)
     have n2_ := Aside0.mk (below_drew1 HB.out)
     clear BK0
     clear BK345
     clear HB
     have BK0 := n0_
     have BK345 := n1_
     have HB := n2_
     clear n0_ n1_ n2_
     have p346 : 0 ≤ (x6_1 : Int) := od_
     have q346 : x6_1 < (l0_3.length : Int) := od_
     obtain ⟨ad346, e346, hx346_0, hx346_1⟩ := at_T37 HR0_3.out x6_1 p346 q346
     have hw346_1 := hx346_1
     have hw346_0 := hx346_0
     cases e346
     replace hx346_0 := (HB.out.cell (World.block_lt_of_cell? w _ hx346_0)).trans hx346_0
     replace hx346_1 := (HB.out.cell (World.block_lt_of_cell? w _ hx346_1)).trans hx346_1
     replace p346 := eq_true p346
     replace q346 := eq_true q346
     have p348 : 0 ≤ ((l0_3.length : Int) : Int) := od_
     have q348 : (l0_3.length : Int) < (l0_0.length : Int) := od_
     obtain ⟨ad348, A348_0, c348_0, e348, hx348_0, hl348_0, hi348_0⟩ := at_L2 HR0_0.out (l0_3.length : Int) p348 q348
     have hw348_0 := hx348_0
     cases e348
     replace hx348_0 := (HB.out.cell (World.block_lt_of_cell? w _ hx348_0)).trans hx348_0
     have HR348_0 := Aside0.mk hi348_0
     have HC348_0 := Aside0.mk hl348_0
     clear hi348_0 hl348_0
     (try simp only [Go.IntWalk.toNatUp] at hx348_0)
     replace p348 := eq_true p348
     replace q348 := eq_true q348
     have p349 : 0 ≤ (x6_1 : Int) := od_
     have q349 : x6_1 < ((rd_L2 l0_0 (l0_3.length : Int)).length : Int) := od_
     obtain ⟨ad349, e349, hx349_0⟩ := Kd.at_int HR348_0.out x6_1 p349 q349
     have hw349_0 := hx349_0
     cases e349
     replace hx349_0 := (HB.out.cell (World.block_lt_of_cell? w _ hx349_0)).trans hx349_0
     replace p349 := eq_true p349
     replace q349 := eq_true q349
     have p350 : 0 ≤ ((l0_3.length : Int) : Int) := od_
     have q350 : (l0_3.length : Int) < (l0_0.length : Int) := od_
     obtain ⟨ad350, A350_0, c350_0, e350, hx350_0, hl350_0, hi350_0⟩ := at_L2 HR0_0.out (l0_3.length : Int) p350 q350
     have hw350_0 := hx350_0
     obtain rfl : ad348 = ad350 := (by injection e350)
     replace hx350_0 := (HB.out.cell (World.block_lt_of_cell? w _ hx350_0)).trans hx350_0
     have HR350_0 := Aside0.mk hi350_0
     have HC350_0 := Aside0.mk hl350_0
     clear hi350_0 hl350_0
     (try simp only [Go.IntWalk.toNatUp] at hx350_0)
     replace p350 := eq_true p350
     replace q350 := eq_true q350
     have ea_ := Option.some.inj (hx348_0.symm.trans hx350_0)
     injection ea_ with ea_ en_ ec_
     subst ea_
     subst ec_
     clear en_
     have p351 : 0 ≤ (x6_1 : Int) := od_
     have q351 : x6_1 < ((rd_L2 l0_0 (l0_3.length : Int)).length : Int) := od_
     obtain ⟨ad349, e351, hx351_0⟩ := Kd.at_int HR350_0.out x6_1 p351 q351
     have hw351_0 := hx351_0
     cases e351
     replace hx351_0 := (HB.out.cell (World.block_lt_of_cell? w _ hx351_0)).trans hx351_0
     replace p351 := eq_true p351
     replace q351 := eq_true q351
     refine start_ (n := 31) (S := fun w' => w'.cell? ⟨gb345, 0, none⟩ = some (.int .i64 a1_0) ∧ w'.cell? ⟨gb345, 1, none⟩ = some (.int .i64 a1_1) ∧ w'.cell? ⟨g0, 0, none⟩ = some (.slice (some ad348) l0_0.length c0_0) ∧ w'.cell? ⟨g0, 1, none⟩ = some (.int .i64 a0_1) ∧ w'.cell? ⟨g0, 2, none⟩ = some (.int .i64 a0_2) ∧ w'.cell? ⟨g0, 3, none⟩ = some (.slice (some ad346) l0_3.length c0_3) ∧ w'.cell? ⟨g0, 4, none⟩ = some (.bool a0_4) ∧ w'.cell? (ad346.add ((x6_1).toNat * 2)) = some (.int .i64 ((rd_T37 l0_3 x6_1).f0)) ∧ w'.cell? ⟨(ad346.add ((x6_1).toNat * 2)).block, (ad346.add ((x6_1).toNat * 2)).off + 1, none⟩ = some (.int .i64 ((rd_T37 l0_3 x6_1).f1)) ∧ w'.cell? (ad348.add l0_3.length) = some (.slice (some ad349) (rd_L2 l0_0 (l0_3.length : Int)).length c348_0) ∧ w'.cell? (ad349.add (x6_1).toNat) = some (.int .i64 (rd (rd_L2 l0_0 (l0_3.length : Int)) x6_1)) ∧ w'.cell? (ad348.add l0_3.length) = some (.slice (some ad349) (rd_L2 l0_0 (l0_3.length : Int)).length c348_0) ∧ w'.cell? (ad349.add (x6_1).toNat) = some (.int .i64 (rd (rd_L2 l0_0 (l0_3.length : Int)) x6_1))) (ds := []) (nb_ 31 0) (by kernel_rfl) rfl rfl ⟨(blk_cell BK345.out 0).trans rfl, (blk_cell BK345.out 1).trans rfl, (blk_cell BK0.out 0).trans rfl, (blk_cell BK0.out 1).trans rfl, (blk_cell BK0.out 2).trans rfl, (blk_cell BK0.out 3).trans rfl, (blk_cell BK0.out 4).trans rfl, ((HB.out.cell (World.block_lt_of_cell? w _ hw346_0)).trans hw346_0), ((HB.out.cell (World.block_lt_of_cell? w _ hw346_1)).trans hw346_1), ((HB.out.cell (World.block_lt_of_cell? w _ hw348_0)).trans hw348_0), ((HB.out.cell (World.block_lt_of_cell? w _ hw349_0)).trans hw349_0), ((HB.out.cell (World.block_lt_of_cell? w _ hw350_0)).trans hw350_0), ((HB.out.cell (World.block_lt_of_cell? w _ hw351_0)).trans hw351_0)⟩ (fun hHeld => ?_); refine with_tabW spec_l30Search_fits.tab5 spec_l30Search_fits.bits5 (fun HT_ HW_ => ?_)
     generalize wr.drew = w14 at BK0 BK345 HB HR348_0 HR350_0 hx346_0 hx346_1 hx348_0 hx349_0 hx350_0 hx351_0 hHeld ⊢
     refine puz_ 1 (some 18) (nb_ 31 2) rfl rfl (any_of HT_.out (by kernel_rfl)) ?_
     refine puz_ 2 (some 19) (nb_ 31 6) rfl rfl (any_of HT_.out (by kernel_rfl)) ?_
     refine puz_ 3 (some 20) (nb_ 31 14) rfl rfl (any_of HT_.out (by kernel_rfl)) ?_
     refine puz_ 5 (some 22) (nb_ 31 46) rfl rfl (any_of HT_.out (by kernel_rfl)) ?_
     refine puz_ 9 (some 26) (nb_ 31 558) rfl rfl (any_of HT_.out (by kernel_rfl)) ?_
     refine puz_ 10 (some 27) (nb_ 31 1582) rfl rfl (any_of HT_.out (by kernel_rfl)) ?_
     refine puz_ 11 (some 28) (nb_ 31 3630) rfl rfl (any_of HT_.out (by kernel_rfl)) ?_
     refine puz_ 13 (some 30) (nb_ 31 11822) rfl rfl (any_of HT_.out (by kernel_rfl)) ?_
     refine puz_ 16 (some 33) (nb_ 31 77358) rfl rfl (any_of HT_.out (by kernel_rfl)) ?_
     refine puz_ 19 (some 36) (nb_ 31 601646) rfl rfl (any_of HT_.out (by kernel_rfl)) ?_
     refine puz_ 20 (some 37) (nb_ 31 1650222) rfl rfl (any_of HT_.out (by kernel_rfl)) ?_
     refine puz_ 21 (some 38) (nb_ 31 3747374) rfl rfl (any_of HT_.out (by kernel_rfl)) ?_
     refine puz_ 23 (some 40) (nb_ 31 12135982) rfl rfl (any_of HT_.out (by kernel_rfl)) ?_
     refine puz_ 26 (some 43) (nb_ 31 79244846) rfl rfl (any_of HT_.out (by kernel_rfl)) ?_
     refine tkz_ 0 (some 17) (nb_ 31 79244847) rfl rfl (take_ofW HT_.out HW_.out (by kernel_rfl)) hHeld ?_
     refine tkz_ 4 (some 21) (nb_ 31 79244863) rfl rfl (take_ofW HT_.out HW_.out (by kernel_rfl)) hHeld ?_
     refine puz_ 6 (some 23) (nb_ 31 79244927) rfl rfl (any_of HT_.out (by kernel_rfl)) ?_
     refine tkz_ 7 (some 24) (nb_ 31 79245055) rfl rfl (take_ofW HT_.out HW_.out (by kernel_rfl)) hHeld ?_
     refine tkz_ 12 (some 29) (nb_ 31 79249151) rfl rfl (take_ofW HT_.out HW_.out (by kernel_rfl)) hHeld ?_
     refine puz_ 14 (some 31) (nb_ 31 79265535) rfl rfl (any_of HT_.out (by kernel_rfl)) ?_
     refine tkz_ 15 (some 32) (nb_ 31 79298303) rfl rfl (take_ofW HT_.out HW_.out (by kernel_rfl)) hHeld ?_
     refine puz_ 17 (some 34) (nb_ 31 79429375) rfl rfl (any_of HT_.out (by kernel_rfl)) ?_
     refine tkz_ 18 (some 35) (nb_ 31 79691519) rfl rfl (take_ofW HT_.out HW_.out (by kernel_rfl)) hHeld ?_
     refine tkz_ 22 (some 39) (nb_ 31 83885823) rfl rfl (take_ofW HT_.out HW_.out (by kernel_rfl)) hHeld ?_
     refine puz_ 24 (some 41) (nb_ 31 100663039) rfl rfl (any_of HT_.out (by kernel_rfl)) ?_
     refine tkz_ 25 (some 42) (nb_ 31 134217471) rfl rfl (take_ofW HT_.out HW_.out (by kernel_rfl)) hHeld ?_
     refine puz_ 27 (some 44) (nb_ 31 268435199) rfl rfl (any_of HT_.out (by kernel_rfl)) ?_
     refine tkz_ 28 (some 45) (nb_ 31 536870655) rfl rfl (take_ofW HT_.out HW_.out (by kernel_rfl)) hHeld ?_
     refine puz_ 29 (some 46) (nb_ 31 1073741567) rfl rfl (any_of HT_.out (by kernel_rfl)) ?_
     refine one_ (i := 8) (N := some 25) (nb_ 31 1073741823) rfl rfl (one_of HT_.out (by kernel_rfl)) (by decide) (fun K hK => ?_)
     refine goes_ Try.func63 (by kernel_rfl) rfl #[.agg #[.int .i64 a1_0, .int .i64 a1_1], .agg #[.int .i64 ((rd_T37 l0_3 x6_1).f0), .int .i64 ((rd_T37 l0_3 x6_1).f1)]] (by rfl) rfl rfl mp_ ?_
     with_reducible refine (spec_l30Square.calls a1_0 a1_1 ((rd_T37 l0_3 x6_1).f0) ((rd_T37 l0_3 x6_1).f1) t347 _ A9.out).mono ?_
     rintro e w15 ⟨rfl, hb⟩
     refine ⟨_, rfl, ?_⟩
     have n0_ := Aside0.mk (blk_below (g := g0) (o := .cells #[.slice (some ad348) l0_0.length c0_0, .int .i64 a0_1, .int .i64 a0_2, .slice (some ad346) l0_3.length c0_3, .bool a0_4] 94 (0, 0)) (bk_ BK0.out) hb)
     have n1_ := Aside0.mk (blk_below (g := gb345) (o := .cells #[.int .i64 a1_0, .int .i64 a1_1] 37 (0, 0)) (bk_ BK345.out) hb)
     have n2_ := Aside0.mk (below_step (bl1_ HB.out GE345.out) hb)
     clear BK0
     clear BK345
     clear HB
     have BK0 := n0_
     have BK345 := n1_
     have HB := n2_
     clear n0_ n1_ n2_
     (try clear hb)
     (try clear hb2)
     (try clear hk)
     (try clear hi)
     refine hK.out _ _ ⟨(blk_cell BK345.out 0).trans rfl, (blk_cell BK345.out 1).trans rfl, (blk_cell BK0.out 0).trans rfl, (blk_cell BK0.out 1).trans rfl, (blk_cell BK0.out 2).trans rfl, (blk_cell BK0.out 3).trans rfl, (blk_cell BK0.out 4).trans rfl, ((HB.out.cell (World.block_lt_of_cell? w _ hw346_0)).trans hw346_0), ((HB.out.cell (World.block_lt_of_cell? w _ hw346_1)).trans hw346_1), ((HB.out.cell (World.block_lt_of_cell? w _ hw348_0)).trans hw348_0), ((HB.out.cell (World.block_lt_of_cell? w _ hw349_0)).trans hw349_0), ((HB.out.cell (World.block_lt_of_cell? w _ hw350_0)).trans hw350_0), ((HB.out.cell (World.block_lt_of_cell? w _ hw351_0)).trans hw351_0)⟩ (fun hHeld => ?_)
     clear hK K
     refine norm_ (a' := ?_) ?_ ?_
     rotate_left
     ·show Act.put _ (some 25) _ = _
      simp only [Act.put, List.setIfInBounds_toArray, List.set_cons_zero, List.set_cons_succ, i64_w, i32_w]
      rfl
     refine puz_ 30 (some 47) (nb_ 31 2147483647) rfl rfl (any_of HT_.out (by kernel_rfl)) ?_
     refine done_ (done_of HT_.out (by kernel_rfl)) ?_
     try go_wp2
     go_ret
     exact ⟨re_, bl1_ HB.out GE345.out⟩
    ·rw [if_neg c13] at H
     have c13b0 := decide_eq_false c13
     clear c13
     have H' := Aside0.mk H
     clear H
     try go_wp2
     have n0_ := Aside0.mk (blk_drew BK0.out)
     have n1_ := Aside0.mk (blk_drew BK345.out)
     have n2_ := Aside0.mk (below_drew1 HB.out)
     clear BK0
     clear BK345
     clear HB
     have BK0 := n0_
     have BK345 := n1_
     have HB := n2_
     clear n0_ n1_ n2_
     have p346 : 0 ≤ (x6_1 : Int) := od_
     have q346 : x6_1 < (l0_3.length : Int) := od_
     obtain ⟨ad346, e346, hx346_0, hx346_1⟩ := at_T37 HR0_3.out x6_1 p346 q346
     have hw346_1 := hx346_1
     have hw346_0 := hx346_0
     cases e346
     replace hx346_0 := (HB.out.cell (World.block_lt_of_cell? w _ hx346_0)).trans hx346_0
     replace hx346_1 := (HB.out.cell (World.block_lt_of_cell? w _ hx346_1)).trans hx346_1
     replace p346 := eq_true p346
     replace q346 := eq_true q346
     have p348 : 0 ≤ ((l0_3.length : Int) : Int) := od_
     have q348 : (l0_3.length : Int) < (l0_0.length : Int) := od_
     obtain ⟨ad348, A348_0, c348_0, e348, hx348_0, hl348_0, hi348_0⟩ := at_L2 HR0_0.out (l0_3.length : Int) p348 q348
     have hw348_0 := hx348_0
     cases e348
     replace hx348_0 := (HB.out.cell (World.block_lt_of_cell? w _ hx348_0)).trans hx348_0
     have HR348_0 := Aside0.mk hi348_0
     have HC348_0 := Aside0.mk hl348_0
     clear hi348_0 hl348_0
     (try simp only [Go.IntWalk.toNatUp] at hx348_0)
     replace p348 := eq_true p348
     replace q348 := eq_true q348
     have p349 : 0 ≤ (x6_1 : Int) := od_
     have q349 : x6_1 < ((rd_L2 l0_0 (l0_3.length : Int)).length : Int) := od_
     obtain ⟨ad349, e349, hx349_0⟩ := Kd.at_int HR348_0.out x6_1 p349 q349
     have hw349_0 := hx349_0
     cases e349
     replace hx349_0 := (HB.out.cell (World.block_lt_of_cell? w _ hx349_0)).trans hx349_0
     replace p349 := eq_true p349
     replace q349 := eq_true q349
     have p350 : 0 ≤ ((l0_3.length : Int) : Int) := od_
     have q350 : (l0_3.length : Int) < (l0_0.length : Int) := od_
     obtain ⟨ad350, A350_0, c350_0, e350, hx350_0, hl350_0, hi350_0⟩ := at_L2 HR0_0.out (l0_3.length : Int) p350 q350
     have hw350_0 := hx350_0
     obtain rfl : ad348 = ad350 := (by injection e350)
     replace hx350_0 := (HB.out.cell (World.block_lt_of_cell? w _ hx350_0)).trans hx350_0
     have HR350_0 := Aside0.mk hi350_0
     have HC350_0 := Aside0.mk hl350_0
     clear hi350_0 hl350_0
     (try simp only [Go.IntWalk.toNatUp] at hx350_0)
     replace p350 := eq_true p350
     replace q350 := eq_true q350
     have ea_ := Option.some.inj (hx348_0.symm.trans hx350_0)
     injection ea_ with ea_ en_ ec_
     subst ea_
     subst ec_
     clear en_
     have p351 : 0 ≤ (x6_1 : Int) := od_
     have q351 : x6_1 < ((rd_L2 l0_0 (l0_3.length : Int)).length : Int) := od_
     obtain ⟨ad349, e351, hx351_0⟩ := Kd.at_int HR350_0.out x6_1 p351 q351
     have hw351_0 := hx351_0
     cases e351
     replace hx351_0 := (HB.out.cell (World.block_lt_of_cell? w _ hx351_0)).trans hx351_0
     replace p351 := eq_true p351
     replace q351 := eq_true q351
     refine start_ (n := 31) (S := fun w' => w'.cell? ⟨gb345, 0, none⟩ = some (.int .i64 a1_0) ∧ w'.cell? ⟨gb345, 1, none⟩ = some (.int .i64 a1_1) ∧ w'.cell? ⟨g0, 0, none⟩ = some (.slice (some ad348) l0_0.length c0_0) ∧ w'.cell? ⟨g0, 1, none⟩ = some (.int .i64 a0_1) ∧ w'.cell? ⟨g0, 2, none⟩ = some (.int .i64 a0_2) ∧ w'.cell? ⟨g0, 3, none⟩ = some (.slice (some ad346) l0_3.length c0_3) ∧ w'.cell? ⟨g0, 4, none⟩ = some (.bool a0_4) ∧ w'.cell? (ad346.add ((x6_1).toNat * 2)) = some (.int .i64 ((rd_T37 l0_3 x6_1).f0)) ∧ w'.cell? ⟨(ad346.add ((x6_1).toNat * 2)).block, (ad346.add ((x6_1).toNat * 2)).off + 1, none⟩ = some (.int .i64 ((rd_T37 l0_3 x6_1).f1)) ∧ w'.cell? (ad348.add l0_3.length) = some (.slice (some ad349) (rd_L2 l0_0 (l0_3.length : Int)).length c348_0) ∧ w'.cell? (ad349.add (x6_1).toNat) = some (.int .i64 (rd (rd_L2 l0_0 (l0_3.length : Int)) x6_1)) ∧ w'.cell? (ad348.add l0_3.length) = some (.slice (some ad349) (rd_L2 l0_0 (l0_3.length : Int)).length c348_0) ∧ w'.cell? (ad349.add (x6_1).toNat) = some (.int .i64 (rd (rd_L2 l0_0 (l0_3.length : Int)) x6_1))) (ds := []) (nb_ 31 0) (by kernel_rfl) rfl rfl ⟨(blk_cell BK345.out 0).trans rfl, (blk_cell BK345.out 1).trans rfl, (blk_cell BK0.out 0).trans rfl, (blk_cell BK0.out 1).trans rfl, (blk_cell BK0.out 2).trans rfl, (blk_cell BK0.out 3).trans rfl, (blk_cell BK0.out 4).trans rfl, ((HB.out.cell (World.block_lt_of_cell? w _ hw346_0)).trans hw346_0), ((HB.out.cell (World.block_lt_of_cell? w _ hw346_1)).trans hw346_1), ((HB.out.cell (World.block_lt_of_cell? w _ hw348_0)).trans hw348_0), ((HB.out.cell (World.block_lt_of_cell? w _ hw349_0)).trans hw349_0), ((HB.out.cell (World.block_lt_of_cell? w _ hw350_0)).trans hw350_0), ((HB.out.cell (World.block_lt_of_cell? w _ hw351_0)).trans hw351_0)⟩ (fun hHeld => ?_); refine with_tabW spec_l30Search_fits.tab5 spec_l30Search_fits.bits5 (fun HT_ HW_ => ?_)
     generalize wr.drew = w16 at BK0 BK345 HB HR348_0 HR350_0 hx346_0 hx346_1 hx348_0 hx349_0 hx350_0 hx351_0 hHeld ⊢
     refine puz_ 1 (some 18) (nb_ 31 2) rfl rfl (any_of HT_.out (by kernel_rfl)) ?_
     refine puz_ 2 (some 19) (nb_ 31 6) rfl rfl (any_of HT_.out (by kernel_rfl)) ?_
     refine puz_ 3 (some 20) (nb_ 31 14) rfl rfl (any_of HT_.out (by kernel_rfl)) ?_
     refine puz_ 5 (some 22) (nb_ 31 46) rfl rfl (any_of HT_.out (by kernel_rfl)) ?_
     refine puz_ 9 (some 26) (nb_ 31 558) rfl rfl (any_of HT_.out (by kernel_rfl)) ?_
     refine puz_ 10 (some 27) (nb_ 31 1582) rfl rfl (any_of HT_.out (by kernel_rfl)) ?_
     refine puz_ 11 (some 28) (nb_ 31 3630) rfl rfl (any_of HT_.out (by kernel_rfl)) ?_
     refine puz_ 13 (some 30) (nb_ 31 11822) rfl rfl (any_of HT_.out (by kernel_rfl)) ?_
     refine puz_ 16 (some 33) (nb_ 31 77358) rfl rfl (any_of HT_.out (by kernel_rfl)) ?_
     refine puz_ 19 (some 36) (nb_ 31 601646) rfl rfl (any_of HT_.out (by kernel_rfl)) ?_
     refine puz_ 20 (some 37) (nb_ 31 1650222) rfl rfl (any_of HT_.out (by kernel_rfl)) ?_
     refine puz_ 21 (some 38) (nb_ 31 3747374) rfl rfl (any_of HT_.out (by kernel_rfl)) ?_
     refine puz_ 23 (some 40) (nb_ 31 12135982) rfl rfl (any_of HT_.out (by kernel_rfl)) ?_
     refine puz_ 26 (some 43) (nb_ 31 79244846) rfl rfl (any_of HT_.out (by kernel_rfl)) ?_
     refine tkz_ 0 (some 17) (nb_ 31 79244847) rfl rfl (take_ofW HT_.out HW_.out (by kernel_rfl)) hHeld ?_
     refine tkz_ 4 (some 21) (nb_ 31 79244863) rfl rfl (take_ofW HT_.out HW_.out (by kernel_rfl)) hHeld ?_
     refine puz_ 6 (some 23) (nb_ 31 79244927) rfl rfl (any_of HT_.out (by kernel_rfl)) ?_
     refine tkz_ 7 (some 24) (nb_ 31 79245055) rfl rfl (take_ofW HT_.out HW_.out (by kernel_rfl)) hHeld ?_
     refine tkz_ 12 (some 29) (nb_ 31 79249151) rfl rfl (take_ofW HT_.out HW_.out (by kernel_rfl)) hHeld ?_
     refine puz_ 14 (some 31) (nb_ 31 79265535) rfl rfl (any_of HT_.out (by kernel_rfl)) ?_
     refine tkz_ 15 (some 32) (nb_ 31 79298303) rfl rfl (take_ofW HT_.out HW_.out (by kernel_rfl)) hHeld ?_
     refine puz_ 17 (some 34) (nb_ 31 79429375) rfl rfl (any_of HT_.out (by kernel_rfl)) ?_
     refine tkz_ 18 (some 35) (nb_ 31 79691519) rfl rfl (take_ofW HT_.out HW_.out (by kernel_rfl)) hHeld ?_
     refine tkz_ 22 (some 39) (nb_ 31 83885823) rfl rfl (take_ofW HT_.out HW_.out (by kernel_rfl)) hHeld ?_
     refine puz_ 24 (some 41) (nb_ 31 100663039) rfl rfl (any_of HT_.out (by kernel_rfl)) ?_
     refine tkz_ 25 (some 42) (nb_ 31 134217471) rfl rfl (take_ofW HT_.out HW_.out (by kernel_rfl)) hHeld ?_
     refine puz_ 27 (some 44) (nb_ 31 268435199) rfl rfl (any_of HT_.out (by kernel_rfl)) ?_
     refine tkz_ 28 (some 45) (nb_ 31 536870655) rfl rfl (take_ofW HT_.out HW_.out (by kernel_rfl)) hHeld ?_
     refine puz_ 29 (some 46) (nb_ 31 1073741567) rfl rfl (any_of HT_.out (by kernel_rfl)) ?_
     refine one_ (i := 8) (N := some 25) (nb_ 31 1073741823) rfl rfl (one_of HT_.out (by kernel_rfl)) (by decide) (fun K hK => ?_)
     refine goes_ Try.func63 (by kernel_rfl) rfl #[.agg #[.int .i64 a1_0, .int .i64 a1_1], .agg #[.int .i64 ((rd_T37 l0_3 x6_1).f0), .int .i64 ((rd_T37 l0_3 x6_1).f1)]] (by rfl) rfl rfl mp_ ?_
     with_reducible refine (spec_l30Square.calls a1_0 a1_1 ((rd_T37 l0_3 x6_1).f0) ((rd_T37 l0_3 x6_1).f1) t347 _ A9.out).mono ?_
     rintro e w17 ⟨rfl, hb⟩
     refine ⟨_, rfl, ?_⟩
     have n0_ := Aside0.mk (blk_below (g := g0) (o := .cells #[.slice (some ad348) l0_0.length c0_0, .int .i64 a0_1, .int .i64 a0_2, .slice (some ad346) l0_3.length c0_3, .bool a0_4] 94 (0, 0)) (bk_ BK0.out) hb)
     have n1_ := Aside0.mk (blk_below (g := gb345) (o := .cells #[.int .i64 a1_0, .int .i64 a1_1] 37 (0, 0)) (bk_ BK345.out) hb)
     have n2_ := Aside0.mk (below_step (bl1_ HB.out GE345.out) hb)
     clear BK0
     clear BK345
     clear HB
     have BK0 := n0_
     have BK345 := n1_
     have HB := n2_
     clear n0_ n1_ n2_
     (try clear hb)
     (try clear hb2)
     (try clear hk)
     (try clear hi)
     refine hK.out _ _ ⟨(blk_cell BK345.out 0).trans rfl, (blk_cell BK345.out 1).trans rfl, (blk_cell BK0.out 0).trans rfl, (blk_cell BK0.out 1).trans rfl, (blk_cell BK0.out 2).trans rfl, (blk_cell BK0.out 3).trans rfl, (blk_cell BK0.out 4).trans rfl, ((HB.out.cell (World.block_lt_of_cell? w _ hw346_0)).trans hw346_0), ((HB.out.cell (World.block_lt_of_cell? w _ hw346_1)).trans hw346_1), ((HB.out.cell (World.block_lt_of_cell? w _ hw348_0)).trans hw348_0), ((HB.out.cell (World.block_lt_of_cell? w _ hw349_0)).trans hw349_0), ((HB.out.cell (World.block_lt_of_cell? w _ hw350_0)).trans hw350_0), ((HB.out.cell (World.block_lt_of_cell? w _ hw351_0)).trans hw351_0)⟩ (fun hHeld => ?_)
     clear hK K
     refine norm_ (a' := ?_) ?_ ?_
     rotate_left
     ·show Act.put _ (some 25) _ = _
      simp only [Act.put, List.setIfInBounds_toArray, List.set_cons_zero, List.set_cons_succ, i64_w, i32_w]
      rfl
     refine puz_ 30 (some 47) (nb_ 31 2147483647) rfl rfl (any_of HT_.out (by kernel_rfl)) ?_
     refine done_ (done_of HT_.out (by kernel_rfl)) ?_
     try go_wp2
     go_roundg k1
     case measure => have := HK1.out; omega
     case rel => exact ⟨(wrap64 (x6_1 + 1)), rs_, H', ⟨by have := HK1.out; omega⟩, ⟨bk_ BK0.out⟩, ⟨bk_ BK345.out⟩, ⟨bl1_ HB.out GE345.out⟩⟩
   ·rw [if_neg c6] at H
    have c6b0 := decide_eq_false c6
    clear c6
    obtain rfl := Option.some.inj H
    go_wp2
    go_ret
    exact ⟨re_, bl1_ HB.out GE345.out⟩

end Go.Proofs.Ytmckbecegiegaaa.A
