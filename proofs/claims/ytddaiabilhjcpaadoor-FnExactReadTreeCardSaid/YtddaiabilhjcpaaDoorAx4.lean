/- For functions of the translation: a Lean function each, and that the call of the Go function comes to its answer. Written by this session's own program (myprint.py, over the kit's printer). -/
import Derived.Test.YtddaiabilhjcpaaDoorAx0
import Derived.Test.YtddaiabilhjcpaaDoorAx3
--compacted
namespace Go.Proofs.YtddaiabilhjcpaaDoor.A
open Go.RowKit Go.Proofs.YtddaiabilhjcpaaDoorW.PrintWords Go.Proofs.YtddaiabilhjcpaaDoorW.PrintLast Go.Proofs.YtddaiabilhjcpaaDoorW.PrintMore
attribute [local go_sem] max2_int min2_int max_two min_two max_three min_three max_four min_four   -- for this text's walks alone
set_option linter.unusedVariables false
set_option linter.unusedSimpArgs false

/-! ### impl_Tree_areEdges: function 44 -/
mutual
def impl_Tree_areEdges.l0 : Nat → List (S52) → Int → Int → Int → List (S52) → Option (Bool)
 | 0, _, _, _, _, _ => none
 | k + 1, x6, x7, x8, x131000, x131001 => if x8 < x7 then (if 0 ≤ x8 then (if x8 < (x6.length : Int) then ((impl_within.f ((rd_T52 x6 x8).f1) 1 (wrap64 (x131000 - 1))).bind fun t134 => (if t134 = true then ((impl_within.f ((rd_T52 x6 x8).f0) 0 (wrap64 (((rd_T52 x6 x8).f1) - 1))).bind fun t135 => (if t135 = true then ((impl_within.f ((rd_T52 x6 x8).f2) 1 20).bind fun t136 => (impl_Tree_areEdges.j1 k x8 x6 x7 x8 (!t136) x131000 x131001 ((rd_T52 x6 x8).f0) ((rd_T52 x6 x8).f1) ((rd_T52 x6 x8).f2))) else (impl_Tree_areEdges.j1 k x8 x6 x7 x8 true x131000 x131001 ((rd_T52 x6 x8).f0) ((rd_T52 x6 x8).f1) ((rd_T52 x6 x8).f2)))) else (impl_Tree_areEdges.j1 k x8 x6 x7 x8 true x131000 x131001 ((rd_T52 x6 x8).f0) ((rd_T52 x6 x8).f1) ((rd_T52 x6 x8).f2)))) else (none)) else (none)) else ((impl_TreeEdge.f x131001).bind fun t131 => (some (t131 == (wrap64 (x131000 - 1)))))
def impl_Tree_areEdges.j1 : Nat → Int → List (S52) → Int → Int → Bool → Int → List (S52) → Int → Int → Int → Option (Bool)
 | 0, _, _, _, _, _, _, _, _, _, _ => none
 | k + 1, x3, x6, x7, x8, x34, x131000, x131001, x134000, x134001, x134002 => if x34 = true then (some false) else (if x3 > 0 then (if 0 ≤ (wrap64 (x3 - 1)) then (if (wrap64 (x3 - 1)) < (x131001.length : Int) then ((cmp_Compare_int64.f ((rd_T52 x131001 (wrap64 (x3 - 1))).f0) x134000).bind fun t138 => ((cmp_Compare_int64.f ((rd_T52 x131001 (wrap64 (x3 - 1))).f1) x134001).bind fun t140 => ((cmp_Or_int.f k (([t138, t140] : List Int))).bind fun t144 => (if t144 ≥ 0 then (some false) else (impl_Tree_areEdges.l0 k x6 x7 (wrap64 (x8 + 1)) x131000 x131001))))) else (none)) else (none)) else (impl_Tree_areEdges.l0 k x6 x7 (wrap64 (x8 + 1)) x131000 x131001))
end
def impl_Tree_areEdges.f (k : Nat) (a0_0 : Int) (l0_1 : List (S52)) : Option (Bool) := impl_Tree_areEdges.l0 k l0_1 (l0_1.length : Int) 0 a0_0 l0_1
theorem impl_Tree_areEdges.mono_l : ∀ k, (∀ y0 y1 y2 y3 y4, LeO (impl_Tree_areEdges.l0 k y0 y1 y2 y3 y4) (impl_Tree_areEdges.l0 (k + 1) y0 y1 y2 y3 y4)) ∧ (∀ y0 y1 y2 y3 y4 y5 y6 y7 y8 y9, LeO (impl_Tree_areEdges.j1 k y0 y1 y2 y3 y4 y5 y6 y7 y8 y9) (impl_Tree_areEdges.j1 (k + 1) y0 y1 y2 y3 y4 y5 y6 y7 y8 y9))
 | 0 => ⟨fun _ _ _ _ _ r h => by simp [impl_Tree_areEdges.l0] at h, fun _ _ _ _ _ _ _ _ _ _ r h => by simp [impl_Tree_areEdges.j1] at h⟩
 | k + 1 => by
  obtain ⟨ih0, ih1⟩ := impl_Tree_areEdges.mono_l k
  refine ⟨?_, ?_⟩
  ·intro y0 y1 y2 y3 y4
   unfold impl_Tree_areEdges.l0
   repeat' first
   | (with_reducible exact ih0 _ _ _ _ _)
   | (with_reducible exact ih1 _ _ _ _ _ _ _ _ _ _)
   | (with_reducible exact cmp_Or_int.mono _ _)
   | (with_reducible exact LeO.refl _)
   | (with_reducible exact LeO.none _)
   | (with_reducible refine LeO.ite ?_ ?_)
   | (with_reducible refine LeO.bind ?_ (fun _ => ?_))
   | exact cmp_Or_int.mono _ _
   | exact LeO.none _
   | refine LeO.ite ?_ ?_
   | refine LeO.bind ?_ (fun _ => ?_)
  ·intro y0 y1 y2 y3 y4 y5 y6 y7 y8 y9
   unfold impl_Tree_areEdges.j1
   repeat' first
   | (with_reducible exact ih0 _ _ _ _ _)
   | (with_reducible exact ih1 _ _ _ _ _ _ _ _ _ _)
   | (with_reducible exact cmp_Or_int.mono _ _)
   | (with_reducible exact LeO.refl _)
   | (with_reducible exact LeO.none _)
   | (with_reducible refine LeO.ite ?_ ?_)
   | (with_reducible refine LeO.bind ?_ (fun _ => ?_))
   | exact cmp_Or_int.mono _ _
   | exact LeO.none _
   | refine LeO.ite ?_ ?_
   | refine LeO.bind ?_ (fun _ => ?_)
theorem impl_Tree_areEdges.mono : ∀ a0 a1 k, LeO (impl_Tree_areEdges.f k a0 a1) (impl_Tree_areEdges.f (k + 1) a0 a1) := by
 intro a0 a1 k
 obtain ⟨ih0, ih1⟩ := impl_Tree_areEdges.mono_l k
 unfold impl_Tree_areEdges.f
 repeat' first
   | (with_reducible exact ih0 _ _ _ _ _)
   | (with_reducible exact ih1 _ _ _ _ _ _ _ _ _ _)
   | (with_reducible exact cmp_Or_int.mono _ _)
   | (with_reducible exact LeO.refl _)
   | (with_reducible exact LeO.none _)
   | (with_reducible refine LeO.ite ?_ ?_)
   | (with_reducible refine LeO.bind ?_ (fun _ => ?_))
   | exact cmp_Or_int.mono _ _
   | exact LeO.none _
   | refine LeO.ite ?_ ?_
   | refine LeO.bind ?_ (fun _ => ?_)
def impl_Tree_areEdges.T6 : Bool × List (List Nat × List Nat) := (true, [([], []), ([0], [0]), ([1], [1]), ([2], [2]), ([3, 2], [2, 3]), ([2], [2]), ([5, 2], [2, 5]), ([4, 6, 2], [2, 4, 6]), ([7, 2], [2, 7]), ([8, 2], [2, 8]), ([2], [2]), ([10, 2], [2, 10]), ([9, 11, 2, 2], [2, 9, 11]), ([2], [2]), ([13, 2], [2, 13]), ([2], [2]), ([15, 2], [2, 15]), ([14, 16, 2], [2, 14, 16]), ([17, 2], [2, 17]), ([18, 2], [2, 18]), ([2], [2]), ([20, 2], [2, 20]), ([19, 21, 12, 2], [2, 19, 21]), ([12, 22, 2], [2, 12, 22]), ([23, 22, 2], [2, 23]), ([24, 2], [2, 24]), ([2, 25], [2, 25])])
def impl_Tree_areEdges.B6 : List Nat := [0, 1, 3, 7, 15, 7, 39, 127, 255, 511, 7, 1031, 4095, 7, 8199, 7, 32775, 122887, 253959, 516103, 7, 1048583, 4194303, 8388607, 16777215, 33554431, 67108863]
theorem impl_Tree_areEdges.tab6 : rtab .any (opsOf Tryd.f44 6) = impl_Tree_areEdges.T6 := by kernel_rfl
theorem impl_Tree_areEdges.bits6 : waitsOk impl_Tree_areEdges.T6.2 impl_Tree_areEdges.B6 = true := by kernel_rfl
def impl_Tree_areEdges.T9 : Bool × List (List Nat × List Nat) := (true, [([], []), ([0], [0]), ([1], [1]), ([], []), ([3], [3]), ([4], [4]), ([2, 5], [2, 5]), ([6, 2, 0, 1, 2, 3, 4, 5, 6], [6])])
def impl_Tree_areEdges.B9 : List Nat := [0, 1, 3, 0, 8, 24, 63, 127]
theorem impl_Tree_areEdges.tab9 : rtab .any (opsOf Tryd.f44 9) = impl_Tree_areEdges.T9 := by kernel_rfl
theorem impl_Tree_areEdges.bits9 : waitsOk impl_Tree_areEdges.T9.2 impl_Tree_areEdges.B9 = true := by kernel_rfl
set_option maxHeartbeats 8000000 in
set_option maxRecDepth 100000 in
theorem impl_Tree_areEdges.calls (k : Nat) (a0_0 : Int) (A0_1 : Option Addr) (c0_1 : Nat) (l0_1 : List (S52)) (r : Bool) (w : World) (hr0_1 : Kd.C k52 w A0_1 l0_1.length l0_1) (hc0_1 : l0_1.length ≤ c0_1) (h : impl_Tree_areEdges.f k a0_0 l0_1 = some r) :
  Calls Tryd.prog 44 #[.agg #[.int .i64 a0_0, .slice A0_1 l0_1.length c0_1]] w fun e w' => e = .returned (.bool r) ∧ Below w.heap.size w w' := by
 have hu26 := Tryd.underlying26
 have hu52 := Tryd.underlying52
 have HR0_1 := Aside0.mk hr0_1
 have HC0_1 := Aside0.mk hc0_1
 clear hr0_1 hc0_1
 have HB := Aside0.mk (Below.refl w.heap.size w)
 have H : (impl_Tree_areEdges.l0 k l0_1 (l0_1.length : Int) 0 a0_0 l0_1) = some r := h
 clear h
 have H' := Aside0.mk H
 clear H
 go_enter Tryd.func44, Tryd.ntmps44
 go_wp2_with (first | ((with_reducible refine gate_dst (N := 1) rfl ?_); (try (refine gate_guard (by rfl) ?_; dsimp only)); refine box_event ?hg (N := 1) ?hd (cs := #[.int .i64 a0_0, .slice A0_1 l0_1.length c0_1]) (t := 26) ?hr ?_; (case hd => rfl); (case hg => rfl); (case hr => first | (go_simp; done) | (go_simp; rfl)); intro gb130 hg w2 hbox hb; have n0_ := Aside0.mk (below_step (bl0_ HB.out) hb); have n1_ := Aside0.mk (hbox); have n2_ := Aside0.mk ((by rw [hg]; exact (below_size (bl0_ HB.out)) : w.heap.size ≤ gb130)); have n3_ := Aside0.mk ((by rw [hg]; exact (below_size (bl0_ HB.out)) : w.heap.size ≤ gb130)); clear HB; have HB := n0_; have BK130 := n1_; have GW130 := n2_; have GE130 := n3_; clear n0_ n1_ n2_ n3_; clear hb hbox hg; obtain ⟨hcz3_0, hcz3_1, hfz3_0, hfz3_1⟩ := cz2_ BK130.out))
 go_loopg [8] k (fun kq v8 w' => ∃ (x8_1 : Int), v8 = .int .i64 x8_1 ∧ Aside0 (impl_Tree_areEdges.l0 kq l0_1 (l0_1.length : Int) x8_1 a0_0 l0_1 = some r) ∧ Aside0 (kq ≤ k) ∧ Aside0 (w'.heap[gb130]? = some (.cells #[.int .i64 a0_0, (.slice A0_1 l0_1.length c0_1)] 26 (0, 0))) ∧ Aside0 (Below w.heap.size w w'))
 case atStart => exact ⟨(0), rs_, H', ⟨Nat.le_refl _⟩, ⟨bk_ BK130.out⟩, ⟨bl1_ HB.out GE130.out⟩⟩
 case round =>
  clear H'
  try clear p2
  try clear hcz3_0
  try clear hcz3_1
  try clear hfz3_0
  try clear hfz3_1
  obtain ⟨x8_1, rfl, HA, HK1, BK130, HB⟩ := hrel
  cases gk with
  | zero => exact absurd HA.out (by simp [impl_Tree_areEdges.l0])
  | succ k1 =>
   have H := HA.out
   clear HA
   simp only [impl_Tree_areEdges.l0] at H
   by_cases c4 : x8_1 < (l0_1.length : Int)
   ·rw [if_pos c4] at H
    have c4b0 := decide_eq_true c4
    clear c4
    by_cases c5 : 0 ≤ x8_1
    rotate_left
    ·exact nope_ c5 H
    rw [if_pos c5] at H
    have c5b0 := decide_eq_true c5
    clear c5
    by_cases c6 : x8_1 < (l0_1.length : Int)
    rotate_left
    ·exact nope_ c6 H
    rw [if_pos c6] at H
    have c6b0 := decide_eq_true c6
    clear c6
    have HC7 := Aside0.mk H
    clear H
    have p132 : 0 ≤ (x8_1 : Int) := od_
    have q132 : x8_1 < (l0_1.length : Int) := od_
    obtain ⟨ad132, e132, hx132_0, hx132_1, hx132_2⟩ := at_T52 HR0_1.out x8_1 p132 q132
    cases e132
    replace hx132_0 := (HB.out.cell (World.block_lt_of_cell? w _ hx132_0)).trans hx132_0
    replace hx132_1 := (HB.out.cell (World.block_lt_of_cell? w _ hx132_1)).trans hx132_1
    replace hx132_2 := (HB.out.cell (World.block_lt_of_cell? w _ hx132_2)).trans hx132_2
    replace p132 := eq_true p132
    replace q132 := eq_true q132
    go_upto_region 4 with (first | ((with_reducible refine gate_dst (N := 4) rfl ?_); (try (refine gate_guard (by rfl) ?_; dsimp only)); refine box_event ?hg (N := 4) ?hd (cs := #[.int .i64 0, .int .i64 0, .int .i64 0]) (t := 52) ?hr ?_; (case hd => rfl); (case hg => rfl); (case hr => first | (go_simp; done) | (go_simp; rfl)); intro gb133 hg w8 hbox hb; have n0_ := Aside0.mk (blk_below (g := gb130) (o := .cells #[.int .i64 a0_0, .slice (some ad132) l0_1.length c0_1] 26 (0, 0)) (bk_ BK130.out) hb); have n1_ := Aside0.mk (below_step (bl1_ HB.out GE130.out) hb); have n2_ := Aside0.mk (hbox); have n3_ := Aside0.mk ((by rw [hg]; exact (below_size (bl1_ HB.out GE130.out)) : w.heap.size ≤ gb133)); have n4_ := Aside0.mk ((by rw [hg]; exact (below_size (bl1_ HB.out GE130.out)) : w.heap.size ≤ gb133)); have n5_ := Aside0.mk ((by rw [hg]; exact Nat.ne_of_lt (blk_lt (bk_ BK130.out)) : gb130 ≠ gb133)); have n6_ := Aside0.mk ((by rw [hg]; exact Nat.ne_of_gt (blk_lt (bk_ BK130.out)) : gb133 ≠ gb130)); clear BK130; clear HB; have BK130 := n0_; have HB := n1_; have BK133 := n2_; have GW133 := n3_; have GE133 := n4_; have NB130_133 := n5_; have NB133_130 := n6_; clear n0_ n1_ n2_ n3_ n4_ n5_ n6_; clear hb hbox hg; have hnb9 := NB133_130.out; have hnc9 := NB130_133.out; obtain ⟨hcz10_0, hcz10_1, hcz10_2, hfz10_0, hfz10_1, hfz10_2⟩ := cz3_ BK133.out))
    (try simp only [Act.put, List.setIfInBounds_toArray, List.set_cons_zero, List.set_cons_succ])
    go_cut [34] (fun v34 wc => ∃ (kq : Nat) (x34_6 : Bool), v34 = .bool x34_6 ∧ Aside0 (impl_Tree_areEdges.j1 kq x8_1 l0_1 (l0_1.length : Int) x8_1 x34_6 a0_0 l0_1 ((rd_T52 l0_1 x8_1).f0) ((rd_T52 l0_1 x8_1).f1) ((rd_T52 l0_1 x8_1).f2) = some r) ∧ Aside0 (kq ≤ k1) ∧ Aside0 (wc.heap[gb130]? = some (.cells #[.int .i64 a0_0, (.slice (some ad132) l0_1.length c0_1)] 26 (0, 0))) ∧ Aside0 (wc.heap[gb133]? = some (.cells #[.int .i64 ((rd_T52 l0_1 x8_1).f0), .int .i64 ((rd_T52 l0_1 x8_1).f1), .int .i64 ((rd_T52 l0_1 x8_1).f2)] 52 (0, 0))) ∧ Aside0 (Below w.heap.size w wc))
    case first =>
     have H := HC7.out
     clear HC7
     replace H := Option.bind_eq_some_iff.mp H
     obtain ⟨t134, A110, H⟩ := H
     replace H : (if t134 = true then ((impl_within.f ((rd_T52 l0_1 x8_1).f0) 0 (wrap64 (((rd_T52 l0_1 x8_1).f1) - 1))).bind fun t135 => (if t135 = true then ((impl_within.f ((rd_T52 l0_1 x8_1).f2) 1 20).bind fun t136 => (impl_Tree_areEdges.j1 k1 x8_1 l0_1 (l0_1.length : Int) x8_1 (!t136) a0_0 l0_1 ((rd_T52 l0_1 x8_1).f0) ((rd_T52 l0_1 x8_1).f1) ((rd_T52 l0_1 x8_1).f2))) else (impl_Tree_areEdges.j1 k1 x8_1 l0_1 (l0_1.length : Int) x8_1 true a0_0 l0_1 ((rd_T52 l0_1 x8_1).f0) ((rd_T52 l0_1 x8_1).f1) ((rd_T52 l0_1 x8_1).f2)))) else (impl_Tree_areEdges.j1 k1 x8_1 l0_1 (l0_1.length : Int) x8_1 true a0_0 l0_1 ((rd_T52 l0_1 x8_1).f0) ((rd_T52 l0_1 x8_1).f1) ((rd_T52 l0_1 x8_1).f2))) = some r := H
     have A11 := Aside0.mk A110
     clear A110
     by_cases c12 : t134 = true
     ·subst c12
      have H1 : ((impl_within.f ((rd_T52 l0_1 x8_1).f0) 0 (wrap64 (((rd_T52 l0_1 x8_1).f1) - 1))).bind fun t135 => (if t135 = true then ((impl_within.f ((rd_T52 l0_1 x8_1).f2) 1 20).bind fun t136 => (impl_Tree_areEdges.j1 k1 x8_1 l0_1 (l0_1.length : Int) x8_1 (!t136) a0_0 l0_1 ((rd_T52 l0_1 x8_1).f0) ((rd_T52 l0_1 x8_1).f1) ((rd_T52 l0_1 x8_1).f2))) else (impl_Tree_areEdges.j1 k1 x8_1 l0_1 (l0_1.length : Int) x8_1 true a0_0 l0_1 ((rd_T52 l0_1 x8_1).f0) ((rd_T52 l0_1 x8_1).f1) ((rd_T52 l0_1 x8_1).f2)))) = some r := by rw [if_pos rfl] at H; exact H
      clear H
      have H := H1
      clear H1
      replace H := Option.bind_eq_some_iff.mp H
      obtain ⟨t135, A130, H⟩ := H
      replace H : (if t135 = true then ((impl_within.f ((rd_T52 l0_1 x8_1).f2) 1 20).bind fun t136 => (impl_Tree_areEdges.j1 k1 x8_1 l0_1 (l0_1.length : Int) x8_1 (!t136) a0_0 l0_1 ((rd_T52 l0_1 x8_1).f0) ((rd_T52 l0_1 x8_1).f1) ((rd_T52 l0_1 x8_1).f2))) else (impl_Tree_areEdges.j1 k1 x8_1 l0_1 (l0_1.length : Int) x8_1 true a0_0 l0_1 ((rd_T52 l0_1 x8_1).f0) ((rd_T52 l0_1 x8_1).f1) ((rd_T52 l0_1 x8_1).f2))) = some r := H
      have A13 := Aside0.mk A130
      clear A130
      by_cases c14 : t135 = true
      ·subst c14
       have H1 : ((impl_within.f ((rd_T52 l0_1 x8_1).f2) 1 20).bind fun t136 => (impl_Tree_areEdges.j1 k1 x8_1 l0_1 (l0_1.length : Int) x8_1 (!t136) a0_0 l0_1 ((rd_T52 l0_1 x8_1).f0) ((rd_T52 l0_1 x8_1).f1) ((rd_T52 l0_1 x8_1).f2))) = some r := by rw [if_pos rfl] at H; exact H
       clear H
       have H := H1
       clear H1
       replace H := Option.bind_eq_some_iff.mp H
       obtain ⟨t136, A150, H⟩ := H
       replace H : (impl_Tree_areEdges.j1 k1 x8_1 l0_1 (l0_1.length : Int) x8_1 (!t136) a0_0 l0_1 ((rd_T52 l0_1 x8_1).f0) ((rd_T52 l0_1 x8_1).f1) ((rd_T52 l0_1 x8_1).f2)) = some r := H
       have A15 := Aside0.mk A150
       clear A150
       have H' := Aside0.mk H
       clear H
       have hnb16 := NB133_130.out
       have hnc16 := NB130_133.out
       obtain ⟨hcz17_0, hcz17_1, hcz17_2, hfz17_0, hfz17_1, hfz17_2⟩ := cz3_ BK133.out
       obtain ⟨hcz18_0, hcz18_1, hfz18_0, hfz18_1⟩ := cz2_ BK130.out
       go_wp2_with (first | ((with_reducible refine gate_callee (f := 43) rfl ?_); refine goesL_ (some 18) rfl rfl Tryd.func43 (by kernel_rfl) rfl #[.int .i64 ((rd_T52 l0_1 x8_1).f1), .int .i64 1, .int .i64 (wrap64 (a0_0 - 1))] rfl mp_ ?_; (with_reducible refine (impl_within.calls ((rd_T52 l0_1 x8_1).f1) 1 (wrap64 (a0_0 - 1)) true _ A11.out).mono ?_); rintro e w' ⟨rfl, ⟨nd, rfl⟩⟩; refine ⟨_, rfl, ?_⟩) | (go_at_call 43; (with_reducible refine (impl_within.calls ((rd_T52 l0_1 x8_1).f0) 0 (wrap64 (((rd_T52 l0_1 x8_1).f1) - 1)) true _ A13.out).mono ?_); rintro e w' ⟨rfl, ⟨nd, rfl⟩⟩) | (go_at_call 43; (with_reducible refine (impl_within.calls ((rd_T52 l0_1 x8_1).f2) 1 20 t136 _ A15.out).mono ?_); rintro e w' ⟨rfl, ⟨nd, rfl⟩⟩))
       go_meet
       case rel => exact ⟨_, (!t136), rs_, H', ⟨by have := HK1.out; first | omega | exact Nat.le_refl _⟩, ⟨by (with_reducible repeat (first | refine blk_drewN ?_ _ | refine blk_drew ?_ | refine blk_alloc ?_ _)); refine blk_far ?_ NB130_133.out _; (with_reducible repeat (first | refine blk_drewN ?_ _ | refine blk_drew ?_ | refine blk_alloc ?_ _)); refine blk_far ?_ NB130_133.out _; (with_reducible repeat (first | refine blk_drewN ?_ _ | refine blk_drew ?_ | refine blk_alloc ?_ _)); refine blk_far ?_ NB130_133.out _; (with_reducible repeat (first | refine blk_drewN ?_ _ | refine blk_drew ?_ | refine blk_alloc ?_ _)); exact BK130.out⟩, ⟨by (with_reducible repeat (first | refine blk_drewN ?_ _ | refine blk_drew ?_ | refine blk_alloc ?_ _)); refine blk_put (cs := #[.int .i64 ((rd_T52 l0_1 x8_1).f0), .int .i64 ((rd_T52 l0_1 x8_1).f1), .int .i64 0]) ?_ 2 _ rfl; (with_reducible repeat (first | refine blk_drewN ?_ _ | refine blk_drew ?_ | refine blk_alloc ?_ _)); refine blk_put (cs := #[.int .i64 ((rd_T52 l0_1 x8_1).f0), .int .i64 0, .int .i64 0]) ?_ 1 _ rfl; (with_reducible repeat (first | refine blk_drewN ?_ _ | refine blk_drew ?_ | refine blk_alloc ?_ _)); refine blk_put (cs := #[.int .i64 0, .int .i64 0, .int .i64 0]) ?_ 0 _ rfl; (with_reducible repeat (first | refine blk_drewN ?_ _ | refine blk_drew ?_ | refine blk_alloc ?_ _)); exact BK133.out⟩, ⟨bl2_ HB.out GE130.out GE133.out⟩⟩
      ·replace c14 := Bool.eq_false_iff.mpr c14
       subst c14
       have H1 : (impl_Tree_areEdges.j1 k1 x8_1 l0_1 (l0_1.length : Int) x8_1 true a0_0 l0_1 ((rd_T52 l0_1 x8_1).f0) ((rd_T52 l0_1 x8_1).f1) ((rd_T52 l0_1 x8_1).f2)) = some r := by rw [if_neg (show ¬ (false = true) by decide)] at H; exact H
       clear H
       have H := H1
       clear H1
       have H' := Aside0.mk H
       clear H
       have hnb19 := NB133_130.out
       have hnc19 := NB130_133.out
       obtain ⟨hcz20_0, hcz20_1, hcz20_2, hfz20_0, hfz20_1, hfz20_2⟩ := cz3_ BK133.out
       obtain ⟨hcz21_0, hcz21_1, hfz21_0, hfz21_1⟩ := cz2_ BK130.out
       go_wp2_with (first | ((with_reducible refine gate_callee (f := 43) rfl ?_); refine goesL_ (some 18) rfl rfl Tryd.func43 (by kernel_rfl) rfl #[.int .i64 ((rd_T52 l0_1 x8_1).f1), .int .i64 1, .int .i64 (wrap64 (a0_0 - 1))] rfl mp_ ?_; (with_reducible refine (impl_within.calls ((rd_T52 l0_1 x8_1).f1) 1 (wrap64 (a0_0 - 1)) true _ A11.out).mono ?_); rintro e w' ⟨rfl, ⟨nd, rfl⟩⟩; refine ⟨_, rfl, ?_⟩) | (go_at_call 43; (with_reducible refine (impl_within.calls ((rd_T52 l0_1 x8_1).f0) 0 (wrap64 (((rd_T52 l0_1 x8_1).f1) - 1)) false _ A13.out).mono ?_); rintro e w' ⟨rfl, ⟨nd, rfl⟩⟩))
       go_meet
       case rel => exact ⟨_, (true), rs_, H', ⟨by have := HK1.out; first | omega | exact Nat.le_refl _⟩, ⟨by (with_reducible repeat (first | refine blk_drewN ?_ _ | refine blk_drew ?_ | refine blk_alloc ?_ _)); refine blk_far ?_ NB130_133.out _; (with_reducible repeat (first | refine blk_drewN ?_ _ | refine blk_drew ?_ | refine blk_alloc ?_ _)); refine blk_far ?_ NB130_133.out _; (with_reducible repeat (first | refine blk_drewN ?_ _ | refine blk_drew ?_ | refine blk_alloc ?_ _)); refine blk_far ?_ NB130_133.out _; (with_reducible repeat (first | refine blk_drewN ?_ _ | refine blk_drew ?_ | refine blk_alloc ?_ _)); exact BK130.out⟩, ⟨by (with_reducible repeat (first | refine blk_drewN ?_ _ | refine blk_drew ?_ | refine blk_alloc ?_ _)); refine blk_put (cs := #[.int .i64 ((rd_T52 l0_1 x8_1).f0), .int .i64 ((rd_T52 l0_1 x8_1).f1), .int .i64 0]) ?_ 2 _ rfl; (with_reducible repeat (first | refine blk_drewN ?_ _ | refine blk_drew ?_ | refine blk_alloc ?_ _)); refine blk_put (cs := #[.int .i64 ((rd_T52 l0_1 x8_1).f0), .int .i64 0, .int .i64 0]) ?_ 1 _ rfl; (with_reducible repeat (first | refine blk_drewN ?_ _ | refine blk_drew ?_ | refine blk_alloc ?_ _)); refine blk_put (cs := #[.int .i64 0, .int .i64 0, .int .i64 0]) ?_ 0 _ rfl; (with_reducible repeat (first | refine blk_drewN ?_ _ | refine blk_drew ?_ | refine blk_alloc ?_ _)); exact BK133.out⟩, ⟨bl2_ HB.out GE130.out GE133.out⟩⟩
     ·replace c12 := Bool.eq_false_iff.mpr c12
      subst c12
      have H1 : (impl_Tree_areEdges.j1 k1 x8_1 l0_1 (l0_1.length : Int) x8_1 true a0_0 l0_1 ((rd_T52 l0_1 x8_1).f0) ((rd_T52 l0_1 x8_1).f1) ((rd_T52 l0_1 x8_1).f2)) = some r := by rw [if_neg (show ¬ (false = true) by decide)] at H; exact H
      clear H
      have H := H1
      clear H1
      have H' := Aside0.mk H
      clear H
      have hnb22 := NB133_130.out
      have hnc22 := NB130_133.out
      obtain ⟨hcz23_0, hcz23_1, hcz23_2, hfz23_0, hfz23_1, hfz23_2⟩ := cz3_ BK133.out
      obtain ⟨hcz24_0, hcz24_1, hfz24_0, hfz24_1⟩ := cz2_ BK130.out
      go_wp2_with (first | ((with_reducible refine gate_callee (f := 43) rfl ?_); refine goesL_ (some 18) rfl rfl Tryd.func43 (by kernel_rfl) rfl #[.int .i64 ((rd_T52 l0_1 x8_1).f1), .int .i64 1, .int .i64 (wrap64 (a0_0 - 1))] rfl mp_ ?_; (with_reducible refine (impl_within.calls ((rd_T52 l0_1 x8_1).f1) 1 (wrap64 (a0_0 - 1)) false _ A11.out).mono ?_); rintro e w' ⟨rfl, ⟨nd, rfl⟩⟩; refine ⟨_, rfl, ?_⟩))
      go_meet
      case rel => exact ⟨_, (true), rs_, H', ⟨by have := HK1.out; first | omega | exact Nat.le_refl _⟩, ⟨by (with_reducible repeat (first | refine blk_drewN ?_ _ | refine blk_drew ?_ | refine blk_alloc ?_ _)); refine blk_far ?_ NB130_133.out _; (with_reducible repeat (first | refine blk_drewN ?_ _ | refine blk_drew ?_ | refine blk_alloc ?_ _)); refine blk_far ?_ NB130_133.out _; (with_reducible repeat (first | refine blk_drewN ?_ _ | refine blk_drew ?_ | refine blk_alloc ?_ _)); refine blk_far ?_ NB130_133.out _; (with_reducible repeat (first | refine blk_drewN ?_ _ | refine blk_drew ?_ | refine blk_alloc ?_ _)); exact BK130.out⟩, ⟨by (with_reducible repeat (first | refine blk_drewN ?_ _ | refine blk_drew ?_ | refine blk_alloc ?_ _)); refine blk_put (cs := #[.int .i64 ((rd_T52 l0_1 x8_1).f0), .int .i64 ((rd_T52 l0_1 x8_1).f1), .int .i64 0]) ?_ 2 _ rfl; (with_reducible repeat (first | refine blk_drewN ?_ _ | refine blk_drew ?_ | refine blk_alloc ?_ _)); refine blk_put (cs := #[.int .i64 ((rd_T52 l0_1 x8_1).f0), .int .i64 0, .int .i64 0]) ?_ 1 _ rfl; (with_reducible repeat (first | refine blk_drewN ?_ _ | refine blk_drew ?_ | refine blk_alloc ?_ _)); refine blk_put (cs := #[.int .i64 0, .int .i64 0, .int .i64 0]) ?_ 0 _ rfl; (with_reducible repeat (first | refine blk_drewN ?_ _ | refine blk_drew ?_ | refine blk_alloc ?_ _)); exact BK133.out⟩, ⟨bl2_ HB.out GE130.out GE133.out⟩⟩
    case rest =>
     clear HC7
     try clear c1
     try clear p1
     try clear q1
     try clear hx1
     try clear c2
     try clear p2
     try clear c4
     try clear c4b0
     try clear c5
     try clear c5b0
     try clear c6
     try clear c6b0
     try clear p6
     try clear c9
     try clear c12
     try clear p13
     try clear q13
     try clear hx13
     try clear c14
     try clear c16
     try clear c19
     try clear c22
     try clear hcz10_0
     try clear hcz10_1
     try clear hcz10_2
     try clear hcz17_0
     try clear hcz17_1
     try clear hcz17_2
     try clear hcz18_0
     try clear hcz18_1
     try clear hcz20_0
     try clear hcz20_1
     try clear hcz20_2
     try clear hcz21_0
     try clear hcz21_1
     try clear hcz23_0
     try clear hcz23_1
     try clear hcz23_2
     try clear hcz24_0
     try clear hcz24_1
     try clear hcz3_0
     try clear hcz3_1
     try clear hfz10_0
     try clear hfz10_1
     try clear hfz10_2
     try clear hfz17_0
     try clear hfz17_1
     try clear hfz17_2
     try clear hfz18_0
     try clear hfz18_1
     try clear hfz20_0
     try clear hfz20_1
     try clear hfz20_2
     try clear hfz21_0
     try clear hfz21_1
     try clear hfz23_0
     try clear hfz23_1
     try clear hfz23_2
     try clear hfz24_0
     try clear hfz24_1
     try clear hfz3_0
     try clear hfz3_1
     try clear hx132_0
     try clear hx132_1
     try clear hx132_2
     try clear p132
     try clear p2
     try clear q132
     obtain ⟨kq, x34_6, rfl, HA, HJ6, BK130, BK133, HB⟩ := hcut
     cases kq with
     | zero => exact absurd HA.out (by simp [impl_Tree_areEdges.j1])
     | succ kj6 =>
      have H := HA.out
      clear HA
      simp only [impl_Tree_areEdges.j1] at H
      by_cases c25 : x34_6 = true
      ·subst c25
       have H1 : (some false) = some r := by rw [if_pos rfl] at H; exact H
       clear H
       have H := H1
       clear H1
       obtain rfl := Option.some.inj H
       go_wp2
       go_ret
       exact ⟨re_, bl2_ HB.out GE130.out GE133.out⟩
      ·replace c25 := Bool.eq_false_iff.mpr c25
       subst c25
       have H1 : (if x8_1 > 0 then (if 0 ≤ (wrap64 (x8_1 - 1)) then (if (wrap64 (x8_1 - 1)) < (l0_1.length : Int) then ((cmp_Compare_int64.f ((rd_T52 l0_1 (wrap64 (x8_1 - 1))).f0) ((rd_T52 l0_1 x8_1).f0)).bind fun t138 => ((cmp_Compare_int64.f ((rd_T52 l0_1 (wrap64 (x8_1 - 1))).f1) ((rd_T52 l0_1 x8_1).f1)).bind fun t140 => ((cmp_Or_int.f kj6 (([t138, t140] : List Int))).bind fun t144 => (if t144 ≥ 0 then (some false) else (impl_Tree_areEdges.l0 kj6 l0_1 (l0_1.length : Int) (wrap64 (x8_1 + 1)) a0_0 l0_1))))) else (none)) else (none)) else (impl_Tree_areEdges.l0 kj6 l0_1 (l0_1.length : Int) (wrap64 (x8_1 + 1)) a0_0 l0_1)) = some r := by rw [if_neg (show ¬ (false = true) by decide)] at H; exact H
       clear H
       have H := H1
       clear H1
       by_cases c26 : x8_1 > 0
       ·rw [if_pos c26] at H
        have c26b0 : decide (0 < x8_1) = true := decide_eq_true c26
        clear c26
        obtain ⟨ji27, hji27⟩ : ∃ j_ : Int, (wrap64 (x8_1 - 1)) = j_ := ⟨_, rfl⟩
        replace H : (if 0 ≤ (ji27) then (if (ji27) < (l0_1.length : Int) then ((cmp_Compare_int64.f ((rd_T52 l0_1 (ji27)).f0) ((rd_T52 l0_1 x8_1).f0)).bind fun t138 => ((cmp_Compare_int64.f ((rd_T52 l0_1 (ji27)).f1) ((rd_T52 l0_1 x8_1).f1)).bind fun t140 => ((cmp_Or_int.f kj6 (([t138, t140] : List Int))).bind fun t144 => (if t144 ≥ 0 then (some false) else (impl_Tree_areEdges.l0 kj6 l0_1 (l0_1.length : Int) (wrap64 (x8_1 + 1)) a0_0 l0_1))))) else (none)) else (none)) = some r := by first | (rw [hji27] at H; exact H) | (simp only [hji27] at H ⊢; exact H)
        have hji27w : (IntKind.i64.wrap (x8_1 - 1)) = ji27 := (i64_w _).trans hji27
        by_cases c28 : 0 ≤ (ji27)
        rotate_left
        ·exact nope_ c28 H
        rw [if_pos c28] at H
        have c28b0 := decide_eq_true c28
        clear c28
        by_cases c29 : (ji27) < (l0_1.length : Int)
        rotate_left
        ·exact nope_ c29 H
        rw [if_pos c29] at H
        have c29b0 := decide_eq_true c29
        clear c29
        replace H := Option.bind_eq_some_iff.mp H
        obtain ⟨t138, A300, H⟩ := H
        replace H : ((cmp_Compare_int64.f ((rd_T52 l0_1 (ji27)).f1) ((rd_T52 l0_1 x8_1).f1)).bind fun t140 => ((cmp_Or_int.f kj6 (([t138, t140] : List Int))).bind fun t144 => (if t144 ≥ 0 then (some false) else (impl_Tree_areEdges.l0 kj6 l0_1 (l0_1.length : Int) (wrap64 (x8_1 + 1)) a0_0 l0_1)))) = some r := H
        have A30 := Aside0.mk A300
        clear A300
        replace H := Option.bind_eq_some_iff.mp H
        obtain ⟨t140, A310, H⟩ := H
        replace H : ((cmp_Or_int.f kj6 (([t138, t140] : List Int))).bind fun t144 => (if t144 ≥ 0 then (some false) else (impl_Tree_areEdges.l0 kj6 l0_1 (l0_1.length : Int) (wrap64 (x8_1 + 1)) a0_0 l0_1))) = some r := H
        have A31 := Aside0.mk A310
        clear A310
        obtain ⟨y141, hy141⟩ : ∃ y_ : List Int, y_ = (([t138, t140] : List Int)) := ⟨_, rfl⟩
        replace H : ((cmp_Or_int.f kj6 y141).bind fun t144 => (if t144 ≥ 0 then (some false) else (impl_Tree_areEdges.l0 kj6 l0_1 (l0_1.length : Int) (wrap64 (x8_1 + 1)) a0_0 l0_1))) = some r := yh_ H hy141
        have Ny141 := Aside0.mk hy141
        clear hy141
        replace H := Option.bind_eq_some_iff.mp H
        obtain ⟨t144, A320, H⟩ := H
        replace H : (if t144 ≥ 0 then (some false) else (impl_Tree_areEdges.l0 kj6 l0_1 (l0_1.length : Int) (wrap64 (x8_1 + 1)) a0_0 l0_1)) = some r := H
        have A32 := Aside0.mk A320
        clear A320
        by_cases c33 : t144 ≥ 0
        ·rw [if_pos c33] at H
         have c33b0 : decide (0 ≤ t144) = true := decide_eq_true c33
         clear c33
         obtain rfl := Option.some.inj H
         try go_wp2
         have n0_ := Aside0.mk (blk_drew BK130.out)
         have n1_ := Aside0.mk (blk_drew BK133.out)
         have n2_ := Aside0.mk (below_drew1 HB.out)
         clear BK130
         clear BK133
         clear HB
         have BK130 := n0_
         have BK133 := n1_
         have HB := n2_
         clear n0_ n1_ n2_
         have p137 : 0 ≤ ((ji27) : Int) := od_
         have q137 : (ji27) < (l0_1.length : Int) := od_
         obtain ⟨ad137, e137, hx137_0, hx137_1, hx137_2⟩ := at_T52 HR0_1.out (ji27) p137 q137
         have hw137_2 := hx137_2
         have hw137_1 := hx137_1
         have hw137_0 := hx137_0
         obtain rfl : ad132 = ad137 := (by injection e137)
         replace hx137_0 := (HB.out.cell (World.block_lt_of_cell? w _ hx137_0)).trans hx137_0
         replace hx137_1 := (HB.out.cell (World.block_lt_of_cell? w _ hx137_1)).trans hx137_1
         replace hx137_2 := (HB.out.cell (World.block_lt_of_cell? w _ hx137_2)).trans hx137_2
         replace p137 := eq_true p137
         replace q137 := eq_true q137
         have p139 : 0 ≤ ((ji27) : Int) := od_
         have q139 : (ji27) < (l0_1.length : Int) := od_
         obtain ⟨ad139, e139, hx139_0, hx139_1, hx139_2⟩ := at_T52 HR0_1.out (ji27) p139 q139
         have hw139_2 := hx139_2
         have hw139_1 := hx139_1
         have hw139_0 := hx139_0
         obtain rfl : ad132 = ad139 := (by injection e139)
         replace hx139_0 := (HB.out.cell (World.block_lt_of_cell? w _ hx139_0)).trans hx139_0
         replace hx139_1 := (HB.out.cell (World.block_lt_of_cell? w _ hx139_1)).trans hx139_1
         replace hx139_2 := (HB.out.cell (World.block_lt_of_cell? w _ hx139_2)).trans hx139_2
         replace p139 := eq_true p139
         replace q139 := eq_true q139
         refine start_ (n := 27) (S := fun w' => w'.cell? ⟨gb130, 0, none⟩ = some (.int .i64 a0_0) ∧ w'.cell? ⟨gb130, 1, none⟩ = some (.slice (some ad132) l0_1.length c0_1) ∧ w'.cell? ⟨gb133, 0, none⟩ = some (.int .i64 ((rd_T52 l0_1 x8_1).f0)) ∧ w'.cell? ⟨gb133, 1, none⟩ = some (.int .i64 ((rd_T52 l0_1 x8_1).f1)) ∧ w'.cell? ⟨gb133, 2, none⟩ = some (.int .i64 ((rd_T52 l0_1 x8_1).f2)) ∧ w'.cell? (ad132.add (((ji27)).toNat * 3)) = some (.int .i64 ((rd_T52 l0_1 (ji27)).f0)) ∧ w'.cell? ⟨(ad132.add (((ji27)).toNat * 3)).block, (ad132.add (((ji27)).toNat * 3)).off + 1, none⟩ = some (.int .i64 ((rd_T52 l0_1 (ji27)).f1)) ∧ w'.cell? ⟨(ad132.add (((ji27)).toNat * 3)).block, (ad132.add (((ji27)).toNat * 3)).off + 2, none⟩ = some (.int .i64 ((rd_T52 l0_1 (ji27)).f2)) ∧ w'.cell? (ad132.add (((ji27)).toNat * 3)) = some (.int .i64 ((rd_T52 l0_1 (ji27)).f0)) ∧ w'.cell? ⟨(ad132.add (((ji27)).toNat * 3)).block, (ad132.add (((ji27)).toNat * 3)).off + 1, none⟩ = some (.int .i64 ((rd_T52 l0_1 (ji27)).f1)) ∧ w'.cell? ⟨(ad132.add (((ji27)).toNat * 3)).block, (ad132.add (((ji27)).toNat * 3)).off + 2, none⟩ = some (.int .i64 ((rd_T52 l0_1 (ji27)).f2))) (ds := []) (nb_ 27 0) (by kernel_rfl) rfl rfl ⟨(blk_cell BK130.out 0).trans rfl, (blk_cell BK130.out 1).trans rfl, (blk_cell BK133.out 0).trans rfl, (blk_cell BK133.out 1).trans rfl, (blk_cell BK133.out 2).trans rfl, ((HB.out.cell (World.block_lt_of_cell? w _ hw137_0)).trans hw137_0), ((HB.out.cell (World.block_lt_of_cell? w _ hw137_1)).trans hw137_1), ((HB.out.cell (World.block_lt_of_cell? w _ hw137_2)).trans hw137_2), ((HB.out.cell (World.block_lt_of_cell? w _ hw139_0)).trans hw139_0), ((HB.out.cell (World.block_lt_of_cell? w _ hw139_1)).trans hw139_1), ((HB.out.cell (World.block_lt_of_cell? w _ hw139_2)).trans hw139_2)⟩ (fun hHeld => ?_); refine with_tabW impl_Tree_areEdges.tab6 impl_Tree_areEdges.bits6 (fun HT_ HW_ => ?_)
         generalize wc.drew = w34 at BK130 BK133 HB hx137_0 hx137_1 hx137_2 hx139_0 hx139_1 hx139_2 hHeld ⊢
         refine puz_ 0 (some 35) (nb_ 27 1) rfl rfl (any_of HT_.out (by kernel_rfl)) ?_
         refine puz_ 1 (some 36) (nb_ 27 3) rfl rfl (any_of HT_.out (by kernel_rfl)) ?_
         refine puz_ 2 (some 37) (nb_ 27 7) rfl rfl (any_of HT_.out (by kernel_rfl)) ?_
         refine puz_ 3 (some 38) (nb_ 27 15) rfl rfl (any_of HT_.out (by kernel_rfl)) ?_
         refine puz_ 5 (some 40) (nb_ 27 47) rfl rfl (any_of HT_.out (by kernel_rfl)) ?_
         refine puz_ 6 (some 41) (nb_ 27 111) rfl rfl (any_of HT_.out (by kernel_rfl)) ?_
         refine puz_ 10 (some 45) (nb_ 27 1135) rfl rfl (any_of HT_.out (by kernel_rfl)) ?_
         refine puz_ 13 (some 48) (nb_ 27 9327) rfl rfl (any_of HT_.out (by kernel_rfl)) ?_
         refine puz_ 15 (some 50) (nb_ 27 42095) rfl rfl (any_of HT_.out (by kernel_rfl)) ?_
         refine puz_ 16 (some 51) (nb_ 27 107631) rfl rfl (any_of HT_.out (by kernel_rfl)) ?_
         refine puz_ 20 (some 55) (nb_ 27 1156207) rfl rfl (any_of HT_.out (by kernel_rfl)) ?_
         refine tkz_ 4 (some 39) (nb_ 27 1156223) rfl rfl (take_ofW HT_.out HW_.out (by kernel_rfl)) hHeld ?_
         refine puz_ 7 (some 42) (nb_ 27 1156351) rfl rfl (any_of HT_.out (by kernel_rfl)) ?_
         refine puz_ 8 (some 43) (nb_ 27 1156607) rfl rfl (any_of HT_.out (by kernel_rfl)) ?_
         refine tkz_ 9 (some 44) (nb_ 27 1157119) rfl rfl (take_ofW HT_.out HW_.out (by kernel_rfl)) hHeld ?_
         refine tkz_ 11 (some 46) (nb_ 27 1159167) rfl rfl (take_ofW HT_.out HW_.out (by kernel_rfl)) hHeld ?_
         refine tkz_ 14 (some 49) (nb_ 27 1175551) rfl rfl (take_ofW HT_.out HW_.out (by kernel_rfl)) hHeld ?_
         refine puz_ 17 (some 52) (nb_ 27 1306623) rfl rfl (any_of HT_.out (by kernel_rfl)) ?_
         refine puz_ 18 (some 53) (nb_ 27 1568767) rfl rfl (any_of HT_.out (by kernel_rfl)) ?_
         refine tkz_ 19 (some 54) (nb_ 27 2093055) rfl rfl (take_ofW HT_.out HW_.out (by kernel_rfl)) hHeld ?_
         refine tkz_ 21 (some 56) (nb_ 27 4190207) rfl rfl (take_ofW HT_.out HW_.out (by kernel_rfl)) hHeld ?_
         refine one_ (i := 12) (N := some 47) (nb_ 27 4194303) rfl rfl (one_of HT_.out (by kernel_rfl)) (by decide) (fun K hK => ?_)
         refine goes_ Tryd.func60 (by kernel_rfl) rfl #[.int .i64 ((rd_T52 l0_1 (ji27)).f0), .int .i64 ((rd_T52 l0_1 x8_1).f0)] (by rfl) rfl rfl (by (try simp only [List.map_toArray, List.map_cons, List.map_nil]); first | done | (simp only [hji27]; rfl) | rfl | (simp only [List.length_drop, List.length_take]; rfl)) ?_
         with_reducible refine (cmp_Compare_int64.calls ((rd_T52 l0_1 (ji27)).f0) ((rd_T52 l0_1 x8_1).f0) t138 _ A30.out).mono ?_
         rintro e w' ⟨rfl, ⟨nd, rfl⟩⟩
         refine ⟨_, rfl, ?_⟩
         refine hK.out _ _ ⟨(blk_cell BK130.out 0).trans rfl, (blk_cell BK130.out 1).trans rfl, (blk_cell BK133.out 0).trans rfl, (blk_cell BK133.out 1).trans rfl, (blk_cell BK133.out 2).trans rfl, ((HB.out.cell (World.block_lt_of_cell? w _ hw137_0)).trans hw137_0), ((HB.out.cell (World.block_lt_of_cell? w _ hw137_1)).trans hw137_1), ((HB.out.cell (World.block_lt_of_cell? w _ hw137_2)).trans hw137_2), ((HB.out.cell (World.block_lt_of_cell? w _ hw139_0)).trans hw139_0), ((HB.out.cell (World.block_lt_of_cell? w _ hw139_1)).trans hw139_1), ((HB.out.cell (World.block_lt_of_cell? w _ hw139_2)).trans hw139_2)⟩ (fun hHeld => ?_)
         clear hK K
         refine norm_ (a' := ?_) ?_ ?_
         rotate_left
         ·show Act.put _ (some 47) _ = _
          simp only [Act.put, List.setIfInBounds_toArray, List.set_cons_zero, List.set_cons_succ, i64_w, i32_w]
          rfl
         refine one_ (i := 22) (N := some 57) (nb_ 27 8388607) rfl rfl (one_of HT_.out (by kernel_rfl)) (by decide) (fun K hK => ?_)
         refine goes_ Tryd.func60 (by kernel_rfl) rfl #[.int .i64 ((rd_T52 l0_1 (ji27)).f1), .int .i64 ((rd_T52 l0_1 x8_1).f1)] (by rfl) rfl rfl (by (try simp only [List.map_toArray, List.map_cons, List.map_nil]); first | done | (simp only [hji27]; rfl) | rfl | (simp only [List.length_drop, List.length_take]; rfl)) ?_
         with_reducible refine (cmp_Compare_int64.calls ((rd_T52 l0_1 (ji27)).f1) ((rd_T52 l0_1 x8_1).f1) t140 _ A31.out).mono ?_
         rintro e w' ⟨rfl, ⟨nd, rfl⟩⟩
         refine ⟨_, rfl, ?_⟩
         refine hK.out _ _ ⟨(blk_cell BK130.out 0).trans rfl, (blk_cell BK130.out 1).trans rfl, (blk_cell BK133.out 0).trans rfl, (blk_cell BK133.out 1).trans rfl, (blk_cell BK133.out 2).trans rfl, ((HB.out.cell (World.block_lt_of_cell? w _ hw137_0)).trans hw137_0), ((HB.out.cell (World.block_lt_of_cell? w _ hw137_1)).trans hw137_1), ((HB.out.cell (World.block_lt_of_cell? w _ hw137_2)).trans hw137_2), ((HB.out.cell (World.block_lt_of_cell? w _ hw139_0)).trans hw139_0), ((HB.out.cell (World.block_lt_of_cell? w _ hw139_1)).trans hw139_1), ((HB.out.cell (World.block_lt_of_cell? w _ hw139_2)).trans hw139_2)⟩ (fun hHeld => ?_)
         clear hK K
         refine norm_ (a' := ?_) ?_ ?_
         rotate_left
         ·show Act.put _ (some 57) _ = _
          simp only [Act.put, List.setIfInBounds_toArray, List.set_cons_zero, List.set_cons_succ, i64_w, i32_w]
          rfl
         refine one_ (i := 23) (N := some 58) (nb_ 27 16777215) rfl rfl (one_of HT_.out (by kernel_rfl)) (by decide) (fun K hK => ?_)
         refine Kd.R_lit_step (Kd.int .i64) _ 3 ?hg (N := 58) ?hd (xs := ([t138, t140] : List Int)) (inner := [.int .i64 t138, .int .i64 t140]) (ok := fun _ => True) (okp := fun _ => True) ?hr ?hp (fun _ hk => hk) trivial (Below.refl _ _) (Nat.le_refl _) (by simp) ?_; (case hd => rfl); (case hg => rfl); (case hr => first | (go_simp; done) | (go_simp; rfl)); (case hp => exact (Reps.one (show Kd.M (Kd.int .i64) _ _ _ t138 [.int .i64 t138] from rfl) (Reps.one (show Kd.M (Kd.int .i64) _ _ _ t140 [.int .i64 t140] from rfl) (Reps.none _ _))))
         intro v142 w35 ho36 hb hg_ hnew_
         clear hg_ hnew_
         (first | rw [← Ny141.out] at ho36 | (simp only [Int.reduceToNat] at ho36; rw [← Ny141.out] at ho36))
         have n0_ := Aside0.mk (Kd.R_lower ho36 (below_size (bl2_ HB.out GE130.out GE133.out)))
         have n1_ := Aside0.mk (blk_below (g := gb130) (o := .cells #[.int .i64 a0_0, .slice (some ad132) l0_1.length c0_1] 26 (0, 0)) (bk_ BK130.out) hb)
         have n2_ := Aside0.mk (blk_below (g := gb133) (o := .cells #[.int .i64 ((rd_T52 l0_1 x8_1).f0), .int .i64 ((rd_T52 l0_1 x8_1).f1), .int .i64 ((rd_T52 l0_1 x8_1).f2)] 52 (0, 0)) (bk_ BK133.out) hb)
         have n3_ := Aside0.mk (below_step (bl2_ HB.out GE130.out GE133.out) hb)
         clear BK130
         clear BK133
         clear HB
         have HO143 := n0_
         have BK130 := n1_
         have BK133 := n2_
         have HB := n3_
         clear n0_ n1_ n2_ n3_
         clear hb ho36
         obtain ⟨Ao37, co37, eo37⟩ := Kd.R_slice HO143.out
         (first | subst eo37 | (injection eo37 with f1_ f2_ f3_; have f4_ := f1_.symm; have f5_ := f3_.symm; clear f1_ f2_ f3_; subst f4_; subst f5_))
         refine hK.out _ _ ⟨(blk_cell BK130.out 0).trans rfl, (blk_cell BK130.out 1).trans rfl, (blk_cell BK133.out 0).trans rfl, (blk_cell BK133.out 1).trans rfl, (blk_cell BK133.out 2).trans rfl, ((HB.out.cell (World.block_lt_of_cell? w _ hw137_0)).trans hw137_0), ((HB.out.cell (World.block_lt_of_cell? w _ hw137_1)).trans hw137_1), ((HB.out.cell (World.block_lt_of_cell? w _ hw137_2)).trans hw137_2), ((HB.out.cell (World.block_lt_of_cell? w _ hw139_0)).trans hw139_0), ((HB.out.cell (World.block_lt_of_cell? w _ hw139_1)).trans hw139_1), ((HB.out.cell (World.block_lt_of_cell? w _ hw139_2)).trans hw139_2)⟩ (fun hHeld => ?_)
         clear hK K
         refine norm_ (a' := ?_) ?_ ?_
         rotate_left
         ·show Act.put _ (some 58) _ = _
          simp only [Act.put, List.setIfInBounds_toArray, List.set_cons_zero, List.set_cons_succ, i64_w, i32_w]
          rfl
         refine one_ (i := 24) (N := some 59) (nb_ 27 33554431) rfl rfl (one_of HT_.out (by kernel_rfl)) (by decide) (fun K hK => ?_)
         refine goes_ Tryd.func59 (by kernel_rfl) rfl #[.slice Ao37 y141.length co37] (by rfl) rfl rfl mp_ ?_
         with_reducible refine (cmp_Or_int.calls kj6 _ _ y141 t144 _ ?side1 ?side2 A32.out).mono ?_
         (case side1 => exact ca_ (Kd.R_reads' HO143.out).2.2)
         (case side2 => exact (Kd.R_reads' HO143.out).2.1)
         rintro e w' ⟨rfl, ⟨nd, rfl⟩⟩
         refine ⟨_, rfl, ?_⟩
         refine hK.out _ _ ⟨(blk_cell BK130.out 0).trans rfl, (blk_cell BK130.out 1).trans rfl, (blk_cell BK133.out 0).trans rfl, (blk_cell BK133.out 1).trans rfl, (blk_cell BK133.out 2).trans rfl, ((HB.out.cell (World.block_lt_of_cell? w _ hw137_0)).trans hw137_0), ((HB.out.cell (World.block_lt_of_cell? w _ hw137_1)).trans hw137_1), ((HB.out.cell (World.block_lt_of_cell? w _ hw137_2)).trans hw137_2), ((HB.out.cell (World.block_lt_of_cell? w _ hw139_0)).trans hw139_0), ((HB.out.cell (World.block_lt_of_cell? w _ hw139_1)).trans hw139_1), ((HB.out.cell (World.block_lt_of_cell? w _ hw139_2)).trans hw139_2)⟩ (fun hHeld => ?_)
         clear hK K
         refine norm_ (a' := ?_) ?_ ?_
         rotate_left
         ·show Act.put _ (some 59) _ = _
          simp only [Act.put, List.setIfInBounds_toArray, List.set_cons_zero, List.set_cons_succ, i64_w, i32_w]
          rfl
         refine puz_ 25 (some 60) (nb_ 27 67108863) rfl rfl (any_of HT_.out (by kernel_rfl)) ?_
         refine puz_ 26 (some 61) (nb_ 27 134217727) rfl rfl (any_of HT_.out (by kernel_rfl)) ?_
         refine done_ (done_of HT_.out (by kernel_rfl)) ?_
         try go_wp2
         go_ret
         exact ⟨by first | rfl | (simp [errW_none, errW_some] <;> rfl) | (simp only [← hji27]; first | rfl | (simp [errW_none, errW_some] <;> rfl)) | (simp [*, errW_none, errW_some] <;> rfl), bl2_ HB.out GE130.out GE133.out⟩
        ·rw [if_neg c33] at H
         have c33b0 : decide (0 ≤ t144) = false := decide_eq_false c33
         clear c33
         have H' := Aside0.mk H
         clear H
         try go_wp2
         have n0_ := Aside0.mk (blk_drew BK130.out)
         have n1_ := Aside0.mk (blk_drew BK133.out)
         have n2_ := Aside0.mk (below_drew1 HB.out)
         clear BK130
         clear BK133
         clear HB
         have BK130 := n0_
         have BK133 := n1_
         have HB := n2_
         clear n0_ n1_ n2_
         have p137 : 0 ≤ ((ji27) : Int) := od_
         have q137 : (ji27) < (l0_1.length : Int) := od_
         obtain ⟨ad137, e137, hx137_0, hx137_1, hx137_2⟩ := at_T52 HR0_1.out (ji27) p137 q137
         have hw137_2 := hx137_2
         have hw137_1 := hx137_1
         have hw137_0 := hx137_0
         obtain rfl : ad132 = ad137 := (by injection e137)
         replace hx137_0 := (HB.out.cell (World.block_lt_of_cell? w _ hx137_0)).trans hx137_0
         replace hx137_1 := (HB.out.cell (World.block_lt_of_cell? w _ hx137_1)).trans hx137_1
         replace hx137_2 := (HB.out.cell (World.block_lt_of_cell? w _ hx137_2)).trans hx137_2
         replace p137 := eq_true p137
         replace q137 := eq_true q137
         have p139 : 0 ≤ ((ji27) : Int) := od_
         have q139 : (ji27) < (l0_1.length : Int) := od_
         obtain ⟨ad139, e139, hx139_0, hx139_1, hx139_2⟩ := at_T52 HR0_1.out (ji27) p139 q139
         have hw139_2 := hx139_2
         have hw139_1 := hx139_1
         have hw139_0 := hx139_0
         obtain rfl : ad132 = ad139 := (by injection e139)
         replace hx139_0 := (HB.out.cell (World.block_lt_of_cell? w _ hx139_0)).trans hx139_0
         replace hx139_1 := (HB.out.cell (World.block_lt_of_cell? w _ hx139_1)).trans hx139_1
         replace hx139_2 := (HB.out.cell (World.block_lt_of_cell? w _ hx139_2)).trans hx139_2
         replace p139 := eq_true p139
         replace q139 := eq_true q139
         refine start_ (n := 27) (S := fun w' => w'.cell? ⟨gb130, 0, none⟩ = some (.int .i64 a0_0) ∧ w'.cell? ⟨gb130, 1, none⟩ = some (.slice (some ad132) l0_1.length c0_1) ∧ w'.cell? ⟨gb133, 0, none⟩ = some (.int .i64 ((rd_T52 l0_1 x8_1).f0)) ∧ w'.cell? ⟨gb133, 1, none⟩ = some (.int .i64 ((rd_T52 l0_1 x8_1).f1)) ∧ w'.cell? ⟨gb133, 2, none⟩ = some (.int .i64 ((rd_T52 l0_1 x8_1).f2)) ∧ w'.cell? (ad132.add (((ji27)).toNat * 3)) = some (.int .i64 ((rd_T52 l0_1 (ji27)).f0)) ∧ w'.cell? ⟨(ad132.add (((ji27)).toNat * 3)).block, (ad132.add (((ji27)).toNat * 3)).off + 1, none⟩ = some (.int .i64 ((rd_T52 l0_1 (ji27)).f1)) ∧ w'.cell? ⟨(ad132.add (((ji27)).toNat * 3)).block, (ad132.add (((ji27)).toNat * 3)).off + 2, none⟩ = some (.int .i64 ((rd_T52 l0_1 (ji27)).f2)) ∧ w'.cell? (ad132.add (((ji27)).toNat * 3)) = some (.int .i64 ((rd_T52 l0_1 (ji27)).f0)) ∧ w'.cell? ⟨(ad132.add (((ji27)).toNat * 3)).block, (ad132.add (((ji27)).toNat * 3)).off + 1, none⟩ = some (.int .i64 ((rd_T52 l0_1 (ji27)).f1)) ∧ w'.cell? ⟨(ad132.add (((ji27)).toNat * 3)).block, (ad132.add (((ji27)).toNat * 3)).off + 2, none⟩ = some (.int .i64 ((rd_T52 l0_1 (ji27)).f2))) (ds := []) (nb_ 27 0) (by kernel_rfl) rfl rfl ⟨(blk_cell BK130.out 0).trans rfl, (blk_cell BK130.out 1).trans rfl, (blk_cell BK133.out 0).trans rfl, (blk_cell BK133.out 1).trans rfl, (blk_cell BK133.out 2).trans rfl, ((HB.out.cell (World.block_lt_of_cell? w _ hw137_0)).trans hw137_0), ((HB.out.cell (World.block_lt_of_cell? w _ hw137_1)).trans hw137_1), ((HB.out.cell (World.block_lt_of_cell? w _ hw137_2)).trans hw137_2), ((HB.out.cell (World.block_lt_of_cell? w _ hw139_0)).trans hw139_0), ((HB.out.cell (World.block_lt_of_cell? w _ hw139_1)).trans hw139_1), ((HB.out.cell (World.block_lt_of_cell? w _ hw139_2)).trans hw139_2)⟩ (fun hHeld => ?_); refine with_tabW impl_Tree_areEdges.tab6 impl_Tree_areEdges.bits6 (fun HT_ HW_ => ?_)
         generalize wc.drew = w38 at BK130 BK133 HB hx137_0 hx137_1 hx137_2 hx139_0 hx139_1 hx139_2 hHeld ⊢
         refine puz_ 0 (some 35) (nb_ 27 1) rfl rfl (any_of HT_.out (by kernel_rfl)) ?_
         refine puz_ 1 (some 36) (nb_ 27 3) rfl rfl (any_of HT_.out (by kernel_rfl)) ?_
         refine puz_ 2 (some 37) (nb_ 27 7) rfl rfl (any_of HT_.out (by kernel_rfl)) ?_
         refine puz_ 3 (some 38) (nb_ 27 15) rfl rfl (any_of HT_.out (by kernel_rfl)) ?_
         refine puz_ 5 (some 40) (nb_ 27 47) rfl rfl (any_of HT_.out (by kernel_rfl)) ?_
         refine puz_ 6 (some 41) (nb_ 27 111) rfl rfl (any_of HT_.out (by kernel_rfl)) ?_
         refine puz_ 10 (some 45) (nb_ 27 1135) rfl rfl (any_of HT_.out (by kernel_rfl)) ?_
         refine puz_ 13 (some 48) (nb_ 27 9327) rfl rfl (any_of HT_.out (by kernel_rfl)) ?_
         refine puz_ 15 (some 50) (nb_ 27 42095) rfl rfl (any_of HT_.out (by kernel_rfl)) ?_
         refine puz_ 16 (some 51) (nb_ 27 107631) rfl rfl (any_of HT_.out (by kernel_rfl)) ?_
         refine puz_ 20 (some 55) (nb_ 27 1156207) rfl rfl (any_of HT_.out (by kernel_rfl)) ?_
         refine tkz_ 4 (some 39) (nb_ 27 1156223) rfl rfl (take_ofW HT_.out HW_.out (by kernel_rfl)) hHeld ?_
         refine puz_ 7 (some 42) (nb_ 27 1156351) rfl rfl (any_of HT_.out (by kernel_rfl)) ?_
         refine puz_ 8 (some 43) (nb_ 27 1156607) rfl rfl (any_of HT_.out (by kernel_rfl)) ?_
         refine tkz_ 9 (some 44) (nb_ 27 1157119) rfl rfl (take_ofW HT_.out HW_.out (by kernel_rfl)) hHeld ?_
         refine tkz_ 11 (some 46) (nb_ 27 1159167) rfl rfl (take_ofW HT_.out HW_.out (by kernel_rfl)) hHeld ?_
         refine tkz_ 14 (some 49) (nb_ 27 1175551) rfl rfl (take_ofW HT_.out HW_.out (by kernel_rfl)) hHeld ?_
         refine puz_ 17 (some 52) (nb_ 27 1306623) rfl rfl (any_of HT_.out (by kernel_rfl)) ?_
         refine puz_ 18 (some 53) (nb_ 27 1568767) rfl rfl (any_of HT_.out (by kernel_rfl)) ?_
         refine tkz_ 19 (some 54) (nb_ 27 2093055) rfl rfl (take_ofW HT_.out HW_.out (by kernel_rfl)) hHeld ?_
         refine tkz_ 21 (some 56) (nb_ 27 4190207) rfl rfl (take_ofW HT_.out HW_.out (by kernel_rfl)) hHeld ?_
         refine one_ (i := 12) (N := some 47) (nb_ 27 4194303) rfl rfl (one_of HT_.out (by kernel_rfl)) (by decide) (fun K hK => ?_)
         refine goes_ Tryd.func60 (by kernel_rfl) rfl #[.int .i64 ((rd_T52 l0_1 (ji27)).f0), .int .i64 ((rd_T52 l0_1 x8_1).f0)] (by rfl) rfl rfl (by (try simp only [List.map_toArray, List.map_cons, List.map_nil]); first | done | (simp only [hji27]; rfl) | rfl | (simp only [List.length_drop, List.length_take]; rfl)) ?_
         with_reducible refine (cmp_Compare_int64.calls ((rd_T52 l0_1 (ji27)).f0) ((rd_T52 l0_1 x8_1).f0) t138 _ A30.out).mono ?_
         rintro e w' ⟨rfl, ⟨nd, rfl⟩⟩
         refine ⟨_, rfl, ?_⟩
         refine hK.out _ _ ⟨(blk_cell BK130.out 0).trans rfl, (blk_cell BK130.out 1).trans rfl, (blk_cell BK133.out 0).trans rfl, (blk_cell BK133.out 1).trans rfl, (blk_cell BK133.out 2).trans rfl, ((HB.out.cell (World.block_lt_of_cell? w _ hw137_0)).trans hw137_0), ((HB.out.cell (World.block_lt_of_cell? w _ hw137_1)).trans hw137_1), ((HB.out.cell (World.block_lt_of_cell? w _ hw137_2)).trans hw137_2), ((HB.out.cell (World.block_lt_of_cell? w _ hw139_0)).trans hw139_0), ((HB.out.cell (World.block_lt_of_cell? w _ hw139_1)).trans hw139_1), ((HB.out.cell (World.block_lt_of_cell? w _ hw139_2)).trans hw139_2)⟩ (fun hHeld => ?_)
         clear hK K
         refine norm_ (a' := ?_) ?_ ?_
         rotate_left
         ·show Act.put _ (some 47) _ = _
          simp only [Act.put, List.setIfInBounds_toArray, List.set_cons_zero, List.set_cons_succ, i64_w, i32_w]
          rfl
         refine one_ (i := 22) (N := some 57) (nb_ 27 8388607) rfl rfl (one_of HT_.out (by kernel_rfl)) (by decide) (fun K hK => ?_)
         refine goes_ Tryd.func60 (by kernel_rfl) rfl #[.int .i64 ((rd_T52 l0_1 (ji27)).f1), .int .i64 ((rd_T52 l0_1 x8_1).f1)] (by rfl) rfl rfl (by (try simp only [List.map_toArray, List.map_cons, List.map_nil]); first | done | (simp only [hji27]; rfl) | rfl | (simp only [List.length_drop, List.length_take]; rfl)) ?_
         with_reducible refine (cmp_Compare_int64.calls ((rd_T52 l0_1 (ji27)).f1) ((rd_T52 l0_1 x8_1).f1) t140 _ A31.out).mono ?_
         rintro e w' ⟨rfl, ⟨nd, rfl⟩⟩
         refine ⟨_, rfl, ?_⟩
         refine hK.out _ _ ⟨(blk_cell BK130.out 0).trans rfl, (blk_cell BK130.out 1).trans rfl, (blk_cell BK133.out 0).trans rfl, (blk_cell BK133.out 1).trans rfl, (blk_cell BK133.out 2).trans rfl, ((HB.out.cell (World.block_lt_of_cell? w _ hw137_0)).trans hw137_0), ((HB.out.cell (World.block_lt_of_cell? w _ hw137_1)).trans hw137_1), ((HB.out.cell (World.block_lt_of_cell? w _ hw137_2)).trans hw137_2), ((HB.out.cell (World.block_lt_of_cell? w _ hw139_0)).trans hw139_0), ((HB.out.cell (World.block_lt_of_cell? w _ hw139_1)).trans hw139_1), ((HB.out.cell (World.block_lt_of_cell? w _ hw139_2)).trans hw139_2)⟩ (fun hHeld => ?_)
         clear hK K
         refine norm_ (a' := ?_) ?_ ?_
         rotate_left
         ·show Act.put _ (some 57) _ = _
          simp only [Act.put, List.setIfInBounds_toArray, List.set_cons_zero, List.set_cons_succ, i64_w, i32_w]
          rfl
         refine one_ (i := 23) (N := some 58) (nb_ 27 16777215) rfl rfl (one_of HT_.out (by kernel_rfl)) (by decide) (fun K hK => ?_)
         refine Kd.R_lit_step (Kd.int .i64) _ 3 ?hg (N := 58) ?hd (xs := ([t138, t140] : List Int)) (inner := [.int .i64 t138, .int .i64 t140]) (ok := fun _ => True) (okp := fun _ => True) ?hr ?hp (fun _ hk => hk) trivial (Below.refl _ _) (Nat.le_refl _) (by simp) ?_; (case hd => rfl); (case hg => rfl); (case hr => first | (go_simp; done) | (go_simp; rfl)); (case hp => exact (Reps.one (show Kd.M (Kd.int .i64) _ _ _ t138 [.int .i64 t138] from rfl) (Reps.one (show Kd.M (Kd.int .i64) _ _ _ t140 [.int .i64 t140] from rfl) (Reps.none _ _))))
         intro v142 w39 ho40 hb hg_ hnew_
         clear hg_ hnew_
         (first | rw [← Ny141.out] at ho40 | (simp only [Int.reduceToNat] at ho40; rw [← Ny141.out] at ho40))
         have n0_ := Aside0.mk (Kd.R_lower ho40 (below_size (bl2_ HB.out GE130.out GE133.out)))
         have n1_ := Aside0.mk (blk_below (g := gb130) (o := .cells #[.int .i64 a0_0, .slice (some ad132) l0_1.length c0_1] 26 (0, 0)) (bk_ BK130.out) hb)
         have n2_ := Aside0.mk (blk_below (g := gb133) (o := .cells #[.int .i64 ((rd_T52 l0_1 x8_1).f0), .int .i64 ((rd_T52 l0_1 x8_1).f1), .int .i64 ((rd_T52 l0_1 x8_1).f2)] 52 (0, 0)) (bk_ BK133.out) hb)
         have n3_ := Aside0.mk (below_step (bl2_ HB.out GE130.out GE133.out) hb)
         clear BK130
         clear BK133
         clear HB
         have HO143 := n0_
         have BK130 := n1_
         have BK133 := n2_
         have HB := n3_
         clear n0_ n1_ n2_ n3_
         clear hb ho40
         obtain ⟨Ao41, co41, eo41⟩ := Kd.R_slice HO143.out
         (first | subst eo41 | (injection eo41 with f1_ f2_ f3_; have f4_ := f1_.symm; have f5_ := f3_.symm; clear f1_ f2_ f3_; subst f4_; subst f5_))
         refine hK.out _ _ ⟨(blk_cell BK130.out 0).trans rfl, (blk_cell BK130.out 1).trans rfl, (blk_cell BK133.out 0).trans rfl, (blk_cell BK133.out 1).trans rfl, (blk_cell BK133.out 2).trans rfl, ((HB.out.cell (World.block_lt_of_cell? w _ hw137_0)).trans hw137_0), ((HB.out.cell (World.block_lt_of_cell? w _ hw137_1)).trans hw137_1), ((HB.out.cell (World.block_lt_of_cell? w _ hw137_2)).trans hw137_2), ((HB.out.cell (World.block_lt_of_cell? w _ hw139_0)).trans hw139_0), ((HB.out.cell (World.block_lt_of_cell? w _ hw139_1)).trans hw139_1), ((HB.out.cell (World.block_lt_of_cell? w _ hw139_2)).trans hw139_2)⟩ (fun hHeld => ?_)
         clear hK K
         refine norm_ (a' := ?_) ?_ ?_
         rotate_left
         ·show Act.put _ (some 58) _ = _
          simp only [Act.put, List.setIfInBounds_toArray, List.set_cons_zero, List.set_cons_succ, i64_w, i32_w]
          rfl
         refine one_ (i := 24) (N := some 59) (nb_ 27 33554431) rfl rfl (one_of HT_.out (by kernel_rfl)) (by decide) (fun K hK => ?_)
         refine goes_ Tryd.func59 (by kernel_rfl) rfl #[.slice Ao41 y141.length co41] (by rfl) rfl rfl mp_ ?_
         with_reducible refine (cmp_Or_int.calls kj6 _ _ y141 t144 _ ?side1 ?side2 A32.out).mono ?_
         (case side1 => exact ca_ (Kd.R_reads' HO143.out).2.2)
         (case side2 => exact (Kd.R_reads' HO143.out).2.1)
         rintro e w' ⟨rfl, ⟨nd, rfl⟩⟩
         refine ⟨_, rfl, ?_⟩
         refine hK.out _ _ ⟨(blk_cell BK130.out 0).trans rfl, (blk_cell BK130.out 1).trans rfl, (blk_cell BK133.out 0).trans rfl, (blk_cell BK133.out 1).trans rfl, (blk_cell BK133.out 2).trans rfl, ((HB.out.cell (World.block_lt_of_cell? w _ hw137_0)).trans hw137_0), ((HB.out.cell (World.block_lt_of_cell? w _ hw137_1)).trans hw137_1), ((HB.out.cell (World.block_lt_of_cell? w _ hw137_2)).trans hw137_2), ((HB.out.cell (World.block_lt_of_cell? w _ hw139_0)).trans hw139_0), ((HB.out.cell (World.block_lt_of_cell? w _ hw139_1)).trans hw139_1), ((HB.out.cell (World.block_lt_of_cell? w _ hw139_2)).trans hw139_2)⟩ (fun hHeld => ?_)
         clear hK K
         refine norm_ (a' := ?_) ?_ ?_
         rotate_left
         ·show Act.put _ (some 59) _ = _
          simp only [Act.put, List.setIfInBounds_toArray, List.set_cons_zero, List.set_cons_succ, i64_w, i32_w]
          rfl
         refine puz_ 25 (some 60) (nb_ 27 67108863) rfl rfl (any_of HT_.out (by kernel_rfl)) ?_
         refine puz_ 26 (some 61) (nb_ 27 134217727) rfl rfl (any_of HT_.out (by kernel_rfl)) ?_
         refine done_ (done_of HT_.out (by kernel_rfl)) ?_
         try go_wp2
         go_roundg kj6
         case measure => have := HK1.out; have := HJ6.out; omega
         case rel => exact ⟨(wrap64 (x8_1 + 1)), rs_, H', ⟨by have := HK1.out; have := HJ6.out; omega⟩, ⟨bk_ BK130.out⟩, ⟨bl2_ HB.out GE130.out GE133.out⟩⟩
       ·rw [if_neg c26] at H
        have c26b0 : decide (0 < x8_1) = false := decide_eq_false c26
        clear c26
        have H' := Aside0.mk H
        clear H
        try go_wp2
        have n0_ := Aside0.mk (blk_drew BK130.out)
        have n1_ := Aside0.mk (blk_drew BK133.out)
        have n2_ := Aside0.mk (below_drew1 HB.out)
        clear BK130
        clear BK133
        clear HB
        have BK130 := n0_
        have BK133 := n1_
        have HB := n2_
        clear n0_ n1_ n2_
        refine start_ (n := 27) (S := fun w' => True) (ds := []) (nb_ 27 0) (by kernel_rfl) rfl rfl trivial (fun hHeld => ?_); refine with_tabW impl_Tree_areEdges.tab6 impl_Tree_areEdges.bits6 (fun HT_ HW_ => ?_)
        generalize wc.drew = w42 at BK130 BK133 HB hHeld ⊢
        refine puz_ 0 (some 35) (nb_ 27 1) rfl rfl (any_of HT_.out (by kernel_rfl)) ?_
        refine puz_ 1 (some 36) (nb_ 27 3) rfl rfl (any_of HT_.out (by kernel_rfl)) ?_
        refine puz_ 2 (some 37) (nb_ 27 7) rfl rfl (any_of HT_.out (by kernel_rfl)) ?_
        refine puu_ 3 (some 38) (nb_ 27 15) rfl rfl (any_of HT_.out (by kernel_rfl)) ?_
        refine puu_ 4 (some 39) (nb_ 27 31) rfl rfl (any_of HT_.out (by kernel_rfl)) ?_
        refine puu_ 5 (some 40) (nb_ 27 63) rfl rfl (any_of HT_.out (by kernel_rfl)) ?_
        refine puu_ 6 (some 41) (nb_ 27 127) rfl rfl (any_of HT_.out (by kernel_rfl)) ?_
        refine puu_ 7 (some 42) (nb_ 27 255) rfl rfl (any_of HT_.out (by kernel_rfl)) ?_
        refine puu_ 8 (some 43) (nb_ 27 511) rfl rfl (any_of HT_.out (by kernel_rfl)) ?_
        refine puu_ 9 (some 44) (nb_ 27 1023) rfl rfl (any_of HT_.out (by kernel_rfl)) ?_
        refine puu_ 10 (some 45) (nb_ 27 2047) rfl rfl (any_of HT_.out (by kernel_rfl)) ?_
        refine puu_ 11 (some 46) (nb_ 27 4095) rfl rfl (any_of HT_.out (by kernel_rfl)) ?_
        refine puu_ 12 (some 47) (nb_ 27 8191) rfl rfl (any_of HT_.out (by kernel_rfl)) ?_
        refine puu_ 13 (some 48) (nb_ 27 16383) rfl rfl (any_of HT_.out (by kernel_rfl)) ?_
        refine puu_ 14 (some 49) (nb_ 27 32767) rfl rfl (any_of HT_.out (by kernel_rfl)) ?_
        refine puu_ 15 (some 50) (nb_ 27 65535) rfl rfl (any_of HT_.out (by kernel_rfl)) ?_
        refine puu_ 16 (some 51) (nb_ 27 131071) rfl rfl (any_of HT_.out (by kernel_rfl)) ?_
        refine puu_ 17 (some 52) (nb_ 27 262143) rfl rfl (any_of HT_.out (by kernel_rfl)) ?_
        refine puu_ 18 (some 53) (nb_ 27 524287) rfl rfl (any_of HT_.out (by kernel_rfl)) ?_
        refine puu_ 19 (some 54) (nb_ 27 1048575) rfl rfl (any_of HT_.out (by kernel_rfl)) ?_
        refine puu_ 20 (some 55) (nb_ 27 2097151) rfl rfl (any_of HT_.out (by kernel_rfl)) ?_
        refine puu_ 21 (some 56) (nb_ 27 4194303) rfl rfl (any_of HT_.out (by kernel_rfl)) ?_
        refine puu_ 22 (some 57) (nb_ 27 8388607) rfl rfl (any_of HT_.out (by kernel_rfl)) ?_
        refine puu_ 23 (some 58) (nb_ 27 16777215) rfl rfl (any_of HT_.out (by kernel_rfl)) ?_
        refine puu_ 24 (some 59) (nb_ 27 33554431) rfl rfl (any_of HT_.out (by kernel_rfl)) ?_
        refine puu_ 25 (some 60) (nb_ 27 67108863) rfl rfl (any_of HT_.out (by kernel_rfl)) ?_
        refine puz_ 26 (some 61) (nb_ 27 134217727) rfl rfl (any_of HT_.out (by kernel_rfl)) ?_
        refine done_ (done_of HT_.out (by kernel_rfl)) ?_
        try go_wp2
        go_roundg kj6
        case measure => have := HK1.out; have := HJ6.out; omega
        case rel => exact ⟨(wrap64 (x8_1 + 1)), rs_, H', ⟨by have := HK1.out; have := HJ6.out; omega⟩, ⟨bk_ BK130.out⟩, ⟨bl2_ HB.out GE130.out GE133.out⟩⟩
   ·rw [if_neg c4] at H
    have c4b0 := decide_eq_false c4
    clear c4
    replace H := Option.bind_eq_some_iff.mp H
    obtain ⟨t131, A430, H⟩ := H
    replace H : (some (t131 == (wrap64 (a0_0 - 1)))) = some r := H
    have A43 := Aside0.mk A430
    clear A430
    obtain rfl := Option.some.inj H
    try go_wp2
    have n0_ := Aside0.mk (blk_drew BK130.out)
    have n1_ := Aside0.mk (below_drew1 HB.out)
    clear BK130
    clear HB
    have BK130 := n0_
    have HB := n1_
    clear n0_ n1_
    refine start_ (n := 8) (S := fun w' => w'.cell? ⟨gb130, 0, none⟩ = some (.int .i64 a0_0) ∧ w'.cell? ⟨gb130, 1, none⟩ = some (.slice A0_1 l0_1.length c0_1)) (ds := []) (nb_ 8 0) (by kernel_rfl) rfl rfl ⟨(blk_cell BK130.out 0).trans rfl, (blk_cell BK130.out 1).trans rfl⟩ (fun hHeld => ?_); refine with_tabW impl_Tree_areEdges.tab9 impl_Tree_areEdges.bits9 (fun HT_ HW_ => ?_)
    generalize wr.drew = w44 at BK130 HB hHeld ⊢
    refine puz_ 0 (some 63) (nb_ 8 1) rfl rfl (any_of HT_.out (by kernel_rfl)) ?_
    refine puz_ 3 (some 66) (nb_ 8 9) rfl rfl (any_of HT_.out (by kernel_rfl)) ?_
    refine tkz_ 1 (some 64) (nb_ 8 11) rfl rfl (take_ofW HT_.out HW_.out (by kernel_rfl)) hHeld ?_
    refine tkz_ 4 (some 67) (nb_ 8 27) rfl rfl (take_ofW HT_.out HW_.out (by kernel_rfl)) hHeld ?_
    refine puz_ 5 (some 68) (nb_ 8 59) rfl rfl (any_of HT_.out (by kernel_rfl)) ?_
    refine one_ (i := 2) (N := some 65) (nb_ 8 63) rfl rfl (one_of HT_.out (by kernel_rfl)) (by decide) (fun K hK => ?_)
    refine goes_ Tryd.func61 (by kernel_rfl) rfl #[.slice A0_1 l0_1.length c0_1] (by rfl) rfl rfl mp_ ?_
    with_reducible refine (impl_TreeEdge.calls _ _ l0_1 t131 _ ?side1 ?side2 A43.out).mono ?_
    (case side1 => exact ca_ (Kd.C_below HR0_1.out HB.out))
    (case side2 => exact HC0_1.out)
    rintro e w' ⟨rfl, ⟨nd, rfl⟩⟩
    refine ⟨_, rfl, ?_⟩
    refine hK.out _ _ ⟨(blk_cell BK130.out 0).trans rfl, (blk_cell BK130.out 1).trans rfl⟩ (fun hHeld => ?_)
    clear hK K
    refine norm_ (a' := ?_) ?_ ?_
    rotate_left
    ·show Act.put _ (some 65) _ = _
     simp only [Act.put, List.setIfInBounds_toArray, List.set_cons_zero, List.set_cons_succ, i64_w, i32_w]
     rfl
    refine puz_ 6 (some 69) (nb_ 8 127) rfl rfl (any_of HT_.out (by kernel_rfl)) ?_
    refine puz_ 7 (some 2) (nb_ 8 255) rfl rfl (any_of HT_.out (by kernel_rfl)) ?_
    refine done_ (done_of HT_.out (by kernel_rfl)) ?_
    try go_wp2
    go_ret
    exact ⟨re_, bl1_ HB.out GE130.out⟩

/-! ### slices_Min_int64_int64: function 45 -/
def slices_Min_int64_int64.l0 : Nat → List Int → Int → Int → Option (Int)
 | 0, _, _, _ => none
 | k + 1, x0, x3, x4 => if x4 < (x0.length : Int) then (if 0 ≤ x4 then (slices_Min_int64_int64.l0 k x0 (mn x3 (rd x0 x4)) (wrap64 (x4 + 1))) else (none)) else (some x3)
def slices_Min_int64_int64.f (k : Nat) (l0 : List Int) : Option (Int) := if (l0.length : Int) < 1 then (none) else (if 0 < (l0.length : Int) then (slices_Min_int64_int64.l0 k l0 (rd l0 0) 1) else (none))
theorem slices_Min_int64_int64.mono_l : ∀ k, (∀ y0 y1 y2, LeO (slices_Min_int64_int64.l0 k y0 y1 y2) (slices_Min_int64_int64.l0 (k + 1) y0 y1 y2))
 | 0 => fun _ _ _ r h => by simp [slices_Min_int64_int64.l0] at h
 | k + 1 => by
  have ih0 := slices_Min_int64_int64.mono_l k
  ·intro y0 y1 y2
   unfold slices_Min_int64_int64.l0
   repeat' first
   | (with_reducible exact ih0 _ _ _)
   | (with_reducible exact LeO.refl _)
   | (with_reducible exact LeO.none _)
   | (with_reducible refine LeO.ite ?_ ?_)
   | (with_reducible refine LeO.bind ?_ (fun _ => ?_))
theorem slices_Min_int64_int64.mono : ∀ a0 k, LeO (slices_Min_int64_int64.f k a0) (slices_Min_int64_int64.f (k + 1) a0) := by
 intro a0 k
 have ih0 := slices_Min_int64_int64.mono_l k
 unfold slices_Min_int64_int64.f
 repeat' first
   | (with_reducible exact ih0 _ _ _)
   | (with_reducible exact LeO.refl _)
   | (with_reducible exact LeO.none _)
   | (with_reducible refine LeO.ite ?_ ?_)
   | (with_reducible refine LeO.bind ?_ (fun _ => ?_))
set_option maxHeartbeats 8000000 in
set_option maxRecDepth 100000 in
theorem slices_Min_int64_int64.calls (k : Nat) (A0 : Option Addr) (c0 : Nat) (l0 : List Int) (r : Int) (w : World) (hr0 : Kd.C (Kd.int .i64) w A0 l0.length l0) (hc0 : l0.length ≤ c0) (h : slices_Min_int64_int64.f k l0 = some r) :
  Calls Tryd.prog 45 #[.slice A0 l0.length c0] w fun e w' => e = .returned (.int .i64 r) ∧ Below w.heap.size w w' := by
 have HR0 := Aside0.mk hr0
 have HC0 := Aside0.mk hc0
 clear hr0 hc0
 have HB := Aside0.mk (Below.refl w.heap.size w)
 have H : (if (l0.length : Int) < 1 then (none) else (if 0 < (l0.length : Int) then (slices_Min_int64_int64.l0 k l0 (rd l0 0) 1) else (none))) = some r := h
 clear h
 by_cases c2 : (l0.length : Int) < 1
 ·rw [if_pos c2] at H
  exact absurd H (by simp)
 ·rw [if_neg c2] at H
  have c2b0 := decide_eq_false c2
  have c2b1 : decide (l0.length < 1) = false := decide_eq_false (by omega)
  clear c2
  by_cases c3 : 0 < (l0.length : Int)
  rotate_left
  ·exact nope_ c3 H
  rw [if_pos c3] at H
  have c3b0 := decide_eq_true c3
  have c3b1 : decide (0 < l0.length) = true := decide_eq_true (by omega)
  clear c3
  have H' := Aside0.mk H
  clear H
  have p145 : 0 ≤ (0 : Int) := (by omega)
  have q145 : 0 < (l0.length : Int) := od_
  obtain ⟨ad145, e145, hx145_0⟩ := Kd.at_int HR0.out 0 p145 q145
  cases e145
  have qi145 : (0 < l0.length) = True := eq_true (by omega)
  (try rw [show ((0 : Int)).toNat = 0 from rfl] at hx145_0)
  (try rw [Addr.add_zero'] at hx145_0)
  replace p145 := eq_true p145
  replace q145 := eq_true q145
  go_enter Tryd.func45, Tryd.ntmps45
  go_wp2
  go_loopg [3, 4] k (fun kq v3 v4 w' => ∃ (x3_1 : Int) (x4_1 : Int), v3 = .int .i64 x3_1 ∧ v4 = .int .i64 x4_1 ∧ Aside0 (slices_Min_int64_int64.l0 kq l0 x3_1 x4_1 = some r) ∧ Aside0 (kq ≤ k) ∧ Aside0 (Below w.heap.size w w'))
  case atStart => exact ⟨(rd l0 0), (1), rs_, rs_, H', ⟨Nat.le_refl _⟩, ⟨bl0_ HB.out⟩⟩
  case round =>
   clear H'
   try clear p1
   try clear q1
   try clear hx1
   try clear qi1
   try clear c2
   try clear c2b0
   try clear c2b1
   try clear p2
   try clear c3
   try clear c3b0
   try clear c3b1
   try clear hx145_0
   try clear p145
   try clear q145
   obtain ⟨x3_1, x4_1, rfl, rfl, HA, HK1, HB⟩ := hrel
   cases gk with
   | zero => exact absurd HA.out (by simp [slices_Min_int64_int64.l0])
   | succ k1 =>
    have H := HA.out
    clear HA
    simp only [slices_Min_int64_int64.l0] at H
    by_cases c4 : x4_1 < (l0.length : Int)
    ·rw [if_pos c4] at H
     have c4b0 := decide_eq_true c4
     clear c4
     by_cases c5 : 0 ≤ x4_1
     rotate_left
     ·exact nope_ c5 H
     rw [if_pos c5] at H
     have c5b0 := decide_eq_true c5
     clear c5
     obtain ⟨ji6, hji6⟩ : ∃ j_ : Int, (mn x3_1 (rd l0 x4_1)) = j_ := ⟨_, rfl⟩
     replace H : (slices_Min_int64_int64.l0 k1 l0 ji6 (wrap64 (x4_1 + 1))) = some r := by first | (rw [hji6] at H; exact H) | (simp only [hji6] at H ⊢; exact H)
     have hji6_ : (if (rd l0 x4_1) < x3_1 then (rd l0 x4_1) else x3_1) = ji6 := hji6
     have H' := Aside0.mk H
     clear H
     have p146 : 0 ≤ (x4_1 : Int) := od_
     have q146 : x4_1 < (l0.length : Int) := od_
     obtain ⟨ad146, e146, hx146_0⟩ := Kd.at_int HR0.out x4_1 p146 q146
     obtain rfl : ad145 = ad146 := (by injection e146)
     replace hx146_0 := (HB.out.cell (World.block_lt_of_cell? w _ hx146_0)).trans hx146_0
     replace p146 := eq_true p146
     replace q146 := eq_true q146
     go_wp2
     go_roundg k1
     case measure => have := HK1.out; omega
     case rel => exact ⟨(ji6), (wrap64 (x4_1 + 1)), (by first | rfl | (simp; done) | (simp only [← hji6] <;> (first | rfl | simp)) | (simp [*]; done)), rs_, H', ⟨by have := HK1.out; omega⟩, ⟨bl0_ HB.out⟩⟩
    ·rw [if_neg c4] at H
     have c4b0 := decide_eq_false c4
     clear c4
     obtain rfl := Option.some.inj H
     go_wp2
     go_ret
     exact ⟨re_, bl0_ HB.out⟩

end Go.Proofs.YtddaiabilhjcpaaDoor.A
