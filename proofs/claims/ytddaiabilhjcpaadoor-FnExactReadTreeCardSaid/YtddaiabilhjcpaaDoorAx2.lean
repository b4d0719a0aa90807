/- For functions of the translation: a Lean function each, and that the call of the Go function comes to its answer. Written by this session's own program (myprint.py, over the kit's printer). -/
import Derived.Test.YtddaiabilhjcpaaDoorAx0
--compacted
namespace Go.Proofs.YtddaiabilhjcpaaDoor.A
open Go.RowKit Go.Proofs.YtddaiabilhjcpaaDoorW.PrintWords Go.Proofs.YtddaiabilhjcpaaDoorW.PrintLast Go.Proofs.YtddaiabilhjcpaaDoorW.PrintMore
attribute [local go_sem] max2_int min2_int max_two min_two max_three min_three max_four min_four   -- for this text's walks alone
set_option linter.unusedVariables false
set_option linter.unusedSimpArgs false

/-! ### impl_Tree_far: function 30 -/
mutual
def impl_Tree_far.l0 : Nat → Int → List Int → List Int → Int → Int → Int → List (S52) → Option (List Int × List Int)
 | 0, _, _, _, _, _, _, _ => none
 | k + 1, x1, x6, x7, x21, x22, x104000, x104001 => if x22 < x21 then (if 0 ≤ x22 then (if x22 < (x6.length : Int) then (if x22 < (x7.length : Int) then (impl_Tree_far.l0 k x1 (x6.set (x22 : Int).toNat (-1)) (x7.set (x22 : Int).toNat (-1)) x21 (wrap64 (x22 + 1)) x104000 x104001) else (none)) else (none)) else (none)) else (if 0 ≤ x1 then (if x1 < (x6.length : Int) then (impl_Tree_far.l1 k (x6.set (x1 : Int).toNat 0) x7 true x104000 x104001) else (none)) else (none))
def impl_Tree_far.l1 : Nat → List Int → List Int → Bool → Int → List (S52) → Option (List Int × List Int)
 | 0, _, _, _, _, _ => none
 | k + 1, x6, x7, x9, x104000, x104001 => if x9 = true then (impl_Tree_far.l2 k x6 x7 false x104001 (x104001.length : Int) 0 x104000 x104001) else (some (x6, x7))
def impl_Tree_far.l2 : Nat → List Int → List Int → Bool → List (S52) → Int → Int → Int → List (S52) → Option (List Int × List Int)
 | 0, _, _, _, _, _, _, _, _ => none
 | k + 1, x6, x7, x9, x37, x38, x39, x104000, x104001 => if x39 < x38 then (if 0 ≤ x39 then (if x39 < (x37.length : Int) then (impl_Tree_far.l3 k x6 x7 x9 x37 x38 x39 0 x104000 x104001 ((rd_T52 x37 x39).f0) ((rd_T52 x37 x39).f1) ((rd_T52 x37 x39).f2) ((rd_T52 x37 x39).f1) ((rd_T52 x37 x39).f0) ((rd_T52 x37 x39).f0) ((rd_T52 x37 x39).f1) ((rd_T52 x37 x39).f1) ((rd_T52 x37 x39).f0)) else (none)) else (none)) else (impl_Tree_far.l1 k x6 x7 x9 x104000 x104001)
def impl_Tree_far.l3 : Nat → List Int → List Int → Bool → List (S52) → Int → Int → Int → Int → List (S52) → Int → Int → Int → Int → Int → Int → Int → Int → Int → Option (List Int × List Int)
 | 0, _, _, _, _, _, _, _, _, _, _, _, _, _, _, _, _, _, _ => none
 | k + 1, x6, x7, x9, x37, x38, x39, x54, x104000, x104001, x115000, x115001, x115002, x705200, x705201, x705300, x705301, x705302, x705303 => if x54 < 2 then (if x54 = 0 then (if 0 ≤ x705300 then (if x705300 < (x6.length : Int) then (if (rd x6 x705300) ≥ 0 then (if 0 ≤ x705301 then (if x705301 < (x6.length : Int) then (if (rd x6 x705301) < 0 then (if x705301 < (x7.length : Int) then (impl_Tree_far.l3 k (x6.set (x705301 : Int).toNat (wrap64 ((rd x6 x705300) + x115002))) (x7.set (x705301 : Int).toNat x705300) true x37 x38 x39 (wrap64 (x54 + 1)) x104000 x104001 x115000 x115001 x115002 x705200 x705201 x705300 x705301 x705302 x705303) else (none)) else (impl_Tree_far.l3 k x6 x7 x9 x37 x38 x39 (wrap64 (x54 + 1)) x104000 x104001 x115000 x115001 x115002 x705200 x705201 x705300 x705301 x705302 x705303)) else (none)) else (none)) else (impl_Tree_far.l3 k x6 x7 x9 x37 x38 x39 (wrap64 (x54 + 1)) x104000 x104001 x115000 x115001 x115002 x705200 x705201 x705300 x705301 x705302 x705303)) else (none)) else (none)) else (if x54 = 1 then (if 0 ≤ x705302 then (if x705302 < (x6.length : Int) then (if (rd x6 x705302) ≥ 0 then (if 0 ≤ x705303 then (if x705303 < (x6.length : Int) then (if (rd x6 x705303) < 0 then (if x705303 < (x7.length : Int) then (impl_Tree_far.l3 k (x6.set (x705303 : Int).toNat (wrap64 ((rd x6 x705302) + x115002))) (x7.set (x705303 : Int).toNat x705302) true x37 x38 x39 (wrap64 (x54 + 1)) x104000 x104001 x115000 x115001 x115002 x705200 x705201 x705300 x705301 x705302 x705303) else (none)) else (impl_Tree_far.l3 k x6 x7 x9 x37 x38 x39 (wrap64 (x54 + 1)) x104000 x104001 x115000 x115001 x115002 x705200 x705201 x705300 x705301 x705302 x705303)) else (none)) else (none)) else (impl_Tree_far.l3 k x6 x7 x9 x37 x38 x39 (wrap64 (x54 + 1)) x104000 x104001 x115000 x115001 x115002 x705200 x705201 x705300 x705301 x705302 x705303)) else (none)) else (none)) else (none))) else (impl_Tree_far.l2 k x6 x7 x9 x37 x38 (wrap64 (x39 + 1)) x104000 x104001)
end
def impl_Tree_far.f (k : Nat) (a0_0 : Int) (l0_1 : List (S52)) (a1 : Int) : Option (List Int × List Int) := if 0 ≤ a0_0 then (if (a0_0 : Int).toNat ≤ 35184372088832 then ((some (List.replicate (a0_0 : Int).toNat 0 : List Int)).bind fun y104 => (impl_Tree_far.l0 k a1 y104 (List.replicate (a0_0 : Int).toNat 0) (y104.length : Int) 0 a0_0 l0_1)) else (none)) else (none)
theorem impl_Tree_far.mono_l : ∀ k, (∀ y0 y1 y2 y3 y4 y5 y6, LeO (impl_Tree_far.l0 k y0 y1 y2 y3 y4 y5 y6) (impl_Tree_far.l0 (k + 1) y0 y1 y2 y3 y4 y5 y6)) ∧ (∀ y0 y1 y2 y3 y4, LeO (impl_Tree_far.l1 k y0 y1 y2 y3 y4) (impl_Tree_far.l1 (k + 1) y0 y1 y2 y3 y4)) ∧ (∀ y0 y1 y2 y3 y4 y5 y6 y7, LeO (impl_Tree_far.l2 k y0 y1 y2 y3 y4 y5 y6 y7) (impl_Tree_far.l2 (k + 1) y0 y1 y2 y3 y4 y5 y6 y7)) ∧ (∀ y0 y1 y2 y3 y4 y5 y6 y7 y8 y9 y10 y11 y12 y13 y14 y15 y16 y17, LeO (impl_Tree_far.l3 k y0 y1 y2 y3 y4 y5 y6 y7 y8 y9 y10 y11 y12 y13 y14 y15 y16 y17) (impl_Tree_far.l3 (k + 1) y0 y1 y2 y3 y4 y5 y6 y7 y8 y9 y10 y11 y12 y13 y14 y15 y16 y17))
 | 0 => ⟨fun _ _ _ _ _ _ _ r h => by simp [impl_Tree_far.l0] at h, fun _ _ _ _ _ r h => by simp [impl_Tree_far.l1] at h, fun _ _ _ _ _ _ _ _ r h => by simp [impl_Tree_far.l2] at h, fun _ _ _ _ _ _ _ _ _ _ _ _ _ _ _ _ _ _ r h => by simp [impl_Tree_far.l3] at h⟩
 | k + 1 => by
  obtain ⟨ih0, ih1, ih2, ih3⟩ := impl_Tree_far.mono_l k
  refine ⟨?_, ?_, ?_, ?_⟩
  ·intro y0 y1 y2 y3 y4 y5 y6
   unfold impl_Tree_far.l0
   repeat' first
   | (with_reducible exact ih0 _ _ _ _ _ _ _)
   | (with_reducible exact ih1 _ _ _ _ _)
   | (with_reducible exact ih2 _ _ _ _ _ _ _ _)
   | (with_reducible exact ih3 _ _ _ _ _ _ _ _ _ _ _ _ _ _ _ _ _ _)
   | (with_reducible exact LeO.refl _)
   | (with_reducible exact LeO.none _)
   | (with_reducible refine LeO.ite ?_ ?_)
   | (with_reducible refine LeO.bind ?_ (fun _ => ?_))
  ·intro y0 y1 y2 y3 y4
   unfold impl_Tree_far.l1
   repeat' first
   | (with_reducible exact ih0 _ _ _ _ _ _ _)
   | (with_reducible exact ih1 _ _ _ _ _)
   | (with_reducible exact ih2 _ _ _ _ _ _ _ _)
   | (with_reducible exact ih3 _ _ _ _ _ _ _ _ _ _ _ _ _ _ _ _ _ _)
   | (with_reducible exact LeO.refl _)
   | (with_reducible exact LeO.none _)
   | (with_reducible refine LeO.ite ?_ ?_)
   | (with_reducible refine LeO.bind ?_ (fun _ => ?_))
  ·intro y0 y1 y2 y3 y4 y5 y6 y7
   unfold impl_Tree_far.l2
   repeat' first
   | (with_reducible exact ih0 _ _ _ _ _ _ _)
   | (with_reducible exact ih1 _ _ _ _ _)
   | (with_reducible exact ih2 _ _ _ _ _ _ _ _)
   | (with_reducible exact ih3 _ _ _ _ _ _ _ _ _ _ _ _ _ _ _ _ _ _)
   | (with_reducible exact LeO.refl _)
   | (with_reducible exact LeO.none _)
   | (with_reducible refine LeO.ite ?_ ?_)
   | (with_reducible refine LeO.bind ?_ (fun _ => ?_))
  ·intro y0 y1 y2 y3 y4 y5 y6 y7 y8 y9 y10 y11 y12 y13 y14 y15 y16 y17
   unfold impl_Tree_far.l3
   repeat' first
   | (with_reducible exact ih0 _ _ _ _ _ _ _)
   | (with_reducible exact ih1 _ _ _ _ _)
   | (with_reducible exact ih2 _ _ _ _ _ _ _ _)
   | (with_reducible exact ih3 _ _ _ _ _ _ _ _ _ _ _ _ _ _ _ _ _ _)
   | (with_reducible exact LeO.refl _)
   | (with_reducible exact LeO.none _)
   | (with_reducible refine LeO.ite ?_ ?_)
   | (with_reducible refine LeO.bind ?_ (fun _ => ?_))
theorem impl_Tree_far.mono : ∀ a0 a1 a2 k, LeO (impl_Tree_far.f k a0 a1 a2) (impl_Tree_far.f (k + 1) a0 a1 a2) := by
 intro a0 a1 a2 k
 obtain ⟨ih0, ih1, ih2, ih3⟩ := impl_Tree_far.mono_l k
 unfold impl_Tree_far.f
 repeat' first
   | (with_reducible exact ih0 _ _ _ _ _ _ _)
   | (with_reducible exact ih1 _ _ _ _ _)
   | (with_reducible exact ih2 _ _ _ _ _ _ _ _)
   | (with_reducible exact ih3 _ _ _ _ _ _ _ _ _ _ _ _ _ _ _ _ _ _)
   | (with_reducible exact LeO.refl _)
   | (with_reducible exact LeO.none _)
   | (with_reducible refine LeO.ite ?_ ?_)
   | (with_reducible refine LeO.bind ?_ (fun _ => ?_))
def impl_Tree_far.T1 : Bool × List (List Nat × List Nat) := (true, [([], []), ([0], [0]), ([1, 1], [1]), ([], []), ([3], [3]), ([4, 4], [4]), ([2, 0, 1, 2], [2]), ([5, 6, 0, 1, 2, 3, 4, 5, 6], [5])])
def impl_Tree_far.B1 : List Nat := [0, 1, 3, 0, 8, 24, 7, 127]
theorem impl_Tree_far.tab1 : rtab .any (opsOf Tryd.f30 1) = impl_Tree_far.T1 := by kernel_rfl
theorem impl_Tree_far.bits1 : waitsOk impl_Tree_far.T1.2 impl_Tree_far.B1 = true := by kernel_rfl
def impl_Tree_far.T18 : Bool × List (List Nat × List Nat) := (true, [([], []), ([], []), ([1], [1]), ([], []), ([], []), ([4], [4]), ([], []), ([], []), ([7], [7]), ([6, 8], [6, 8]), ([9], [9]), ([], []), ([11], [11]), ([10, 12], [10, 12]), ([], []), ([14], [14]), ([0, 2, 0, 1, 2, 6, 7, 8, 9, 10, 11, 12, 13], [0, 2]), ([16, 13, 0, 1, 2, 6, 7, 8, 9, 10, 11, 12, 13], [13, 16]), ([3, 5, 0, 1, 2, 3, 4, 5, 6, 7, 8, 9, 10, 11, 12, 13, 14, 15, 16, 17], [3, 5]), ([18, 15, 17, 0, 1, 2, 3, 4, 5, 6, 7, 8, 9, 10, 11, 12, 13, 14, 15, 16, 17], [15, 18]), ([19, 0, 1, 2, 3, 4, 5, 6, 7, 8, 9, 10, 11, 12, 13, 14, 15, 16, 17, 18, 19], [])])
def impl_Tree_far.B18 : List Nat := [0, 0, 2, 0, 0, 16, 0, 0, 128, 448, 960, 0, 2048, 8128, 0, 16384, 16327, 81863, 262143, 524287, 1048575]
theorem impl_Tree_far.tab18 : rtab .any (opsOf Tryd.f30 18) = impl_Tree_far.T18 := by kernel_rfl
theorem impl_Tree_far.bits18 : waitsOk impl_Tree_far.T18.2 impl_Tree_far.B18 = true := by kernel_rfl
set_option maxHeartbeats 8000000 in
set_option maxRecDepth 100000 in
theorem impl_Tree_far.calls (k : Nat) (a0_0 : Int) (A0_1 : Option Addr) (c0_1 : Nat) (l0_1 : List (S52)) (a1 : Int) (r1 : List Int) (r2 : List Int) (w : World) (hr0_1 : Kd.C k52 w A0_1 l0_1.length l0_1) (hc0_1 : l0_1.length ≤ c0_1) (h : impl_Tree_far.f k a0_0 l0_1 a1 = some (r1, r2)) :
  Calls Tryd.prog 30 #[.agg #[.int .i64 a0_0, .slice A0_1 l0_1.length c0_1], .int .i64 a1] w fun e w' => ∃ v0_ v1_ : Value, e = .returned (.tuple #[v0_, v1_]) ∧ Kd.R (Kd.int .i64) 2 w' w.heap.size (fun k_ => some k_ ≠ (v1_ : Value).ownBlock) v0_ r1 ∧ Kd.R (Kd.int .i64) 2 w' w.heap.size (fun k_ => some k_ ≠ (v0_ : Value).ownBlock) v1_ r2 ∧ Below w.heap.size w w' := by
 have hu26 := Tryd.underlying26
 have hu52 := Tryd.underlying52
 have hu78 := Tryd.underlying78
 have hu79 := Tryd.underlying79
 have HR0_1 := Aside0.mk hr0_1
 have HC0_1 := Aside0.mk hc0_1
 clear hr0_1 hc0_1
 have HB := Aside0.mk (Below.refl w.heap.size w)
 have H : (if 0 ≤ a0_0 then (if (a0_0 : Int).toNat ≤ 35184372088832 then ((some (List.replicate (a0_0 : Int).toNat 0 : List Int)).bind fun y104 => (impl_Tree_far.l0 k a1 y104 (List.replicate (a0_0 : Int).toNat 0) (y104.length : Int) 0 a0_0 l0_1)) else (none)) else (none)) = some (r1, r2) := h
 clear h
 by_cases c3 : 0 ≤ a0_0
 rotate_left
 ·exact nope_ c3 H
 rw [if_pos c3] at H
 have c3b0 := eq_true c3
 have c3b1 := decide_eq_true c3
 clear c3
 by_cases c4 : (a0_0 : Int).toNat ≤ 35184372088832
 rotate_left
 ·exact nope_ c4 H
 rw [if_pos c4] at H
 have c4b0 := eq_true c4
 have c4b1 := decide_eq_true c4
 clear c4
 obtain ⟨y104, hy104⟩ : ∃ y_ : List Int, y_ = (List.replicate (a0_0 : Int).toNat 0) := ⟨_, rfl⟩
 replace H : (impl_Tree_far.l0 k a1 y104 (List.replicate (a0_0 : Int).toNat 0) (y104.length : Int) 0 a0_0 l0_1) = some (r1, r2) := yh_ H hy104
 have Ny104 := Aside0.mk hy104
 clear hy104
 obtain ⟨y107, hy107⟩ : ∃ y_ : List Int, y_ = (List.replicate (a0_0 : Int).toNat 0) := ⟨_, rfl⟩
 replace H : (impl_Tree_far.l0 k a1 y104 y107 (y104.length : Int) 0 a0_0 l0_1) = some (r1, r2) := yh_ H hy107
 have Ny107 := Aside0.mk hy107
 clear hy107
 have H' := Aside0.mk H
 clear H
 go_enter Tryd.func30, Tryd.ntmps30
 try go_wp2_with (first | ((with_reducible refine gate_dst (N := 2) rfl ?_); refine box_event ?hg (N := 2) ?hd (cs := #[.int .i64 a0_0, .slice A0_1 l0_1.length c0_1]) (t := 26) ?hr ?_; (case hd => rfl); (case hg => rfl); (case hr => first | (go_simp; done) | (go_simp; rfl)); intro gb103 hg w5 hbox hb; have n0_ := Aside0.mk (below_step (bl0_ HB.out) hb); have n1_ := Aside0.mk (hbox); have n2_ := Aside0.mk ((by rw [hg]; exact (below_size (bl0_ HB.out)) : w.heap.size ≤ gb103)); have n3_ := Aside0.mk ((by rw [hg]; exact (below_size (bl0_ HB.out)) : w.heap.size ≤ gb103)); clear HB; have HB := n0_; have BK103 := n1_; have GW103 := n2_; have GE103 := n3_; clear n0_ n1_ n2_ n3_; clear hb hbox hg))
 have n0_ := Aside0.mk (blk_drew BK103.out)
 have n1_ := Aside0.mk (below_drew1 HB.out)
 clear BK103
 clear HB
 have BK103 := n0_
 have HB := n1_
 clear n0_ n1_
 refine start_ (n := 8) (S := fun w' => w'.cell? ⟨gb103, 0, none⟩ = some (.int .i64 a0_0) ∧ w'.cell? ⟨gb103, 1, none⟩ = some (.slice A0_1 l0_1.length c0_1)) (ds := []) (nb_ 8 0) (by kernel_rfl) rfl rfl ⟨(blk_cell BK103.out 0).trans rfl, (blk_cell BK103.out 1).trans rfl⟩ (fun hHeld => ?_); refine with_tabW impl_Tree_far.tab1 impl_Tree_far.bits1 (fun HT_ HW_ => ?_)
 generalize w5.drew = w6 at BK103 HB hHeld ⊢
 refine puz_ 0 (some 14) (nb_ 8 1) rfl rfl (any_of HT_.out (by kernel_rfl)) ?_
 refine puz_ 3 (some 17) (nb_ 8 9) rfl rfl (any_of HT_.out (by kernel_rfl)) ?_
 refine tkz_ 1 (some 15) (nb_ 8 11) rfl rfl (take_ofW HT_.out HW_.out (by kernel_rfl)) hHeld ?_
 refine tkz_ 4 (some 18) (nb_ 8 27) rfl rfl (take_ofW HT_.out HW_.out (by kernel_rfl)) hHeld ?_
 refine join_ (σ := Value × Value) 1 (nb_ 8 127) (fun s_ => [(16, s_.1), (19, s_.2), (6, s_.1)]) (fun s_ w' => (w'.cell? ⟨gb103, 0, none⟩ = some (.int .i64 a0_0) ∧ w'.cell? ⟨gb103, 1, none⟩ = some (.slice A0_1 l0_1.length c0_1)) ∧ (Kd.R (Kd.int .i64) 2 w' w.heap.size (fun k_ => some k_ ≠ (s_.2 : Value).ownBlock) s_.1 y104) ∧ (Kd.R (Kd.int .i64) 2 w' w.heap.size (fun k_ => some k_ ≠ (s_.1 : Value).ownBlock) s_.2 y107) ∧ (w'.heap[gb103]? = some (.cells #[.int .i64 a0_0, .slice A0_1 l0_1.length c0_1] 26 (0, 0))) ∧ (Below w.heap.size w w')) ?_ ?_
 rotate_left
 ·intro hCont
  refine two_ (i := 2) (j := 5) (Ni := some 16) (Nj := some 19) (nb_ 8 31) (nb_ 8 59) rfl rfl rfl rfl (two_of HT_.out (by kernel_rfl)) (by decide) (by decide) (fun K hK => ?_) (fun K hK => ?_)
  ·skip
   refine Kd.R_make_step (Kd.int .i64) _ 2 (by rfl) (N := 16) rfl 32 _ _ rfl a0_0 rfl rfl Tryd.underlying32 (.int .i64 0) 8 info2 rfl (by decide) (by omega) 0 (ok := fun _ => True) (okp := fun _ => True) rfl (fun _ hk => hk) trivial (od_) (Nat.le_trans (Nat.mul_le_mul_right _ (od_ : a0_0.toNat ≤ 35184372088832)) (by omega)) (Below.refl _ _) (Nat.le_refl _) ?_
   intro v105 w7 ho8 hb hg_ hnew_
   clear hg_ hnew_
   (first | rw [← Ny104.out] at ho8 | (simp only [Int.reduceToNat] at ho8; rw [← Ny104.out] at ho8))
   have n0_ := Aside0.mk (Kd.R_lower ho8 (below_size (bl1_ HB.out GE103.out)))
   have n1_ := Aside0.mk (blk_below (g := gb103) (o := .cells #[.int .i64 a0_0, .slice A0_1 l0_1.length c0_1] 26 (0, 0)) (bk_ BK103.out) hb)
   have n2_ := Aside0.mk (below_step (bl1_ HB.out GE103.out) hb)
   clear BK103
   clear HB
   have HO106 := n0_
   have BK103 := n1_
   have HB := n2_
   clear n0_ n1_ n2_
   clear hb ho8
   refine hK.out _ _ ⟨(blk_cell BK103.out 0).trans rfl, (blk_cell BK103.out 1).trans rfl⟩ (fun hHeld => ?_)
   clear hK K
   refine norm_ (a' := ?_) ?_ ?_
   rotate_left
   ·show Act.put _ (some 16) _ = _
    simp only [Act.put, List.setIfInBounds_toArray, List.set_cons_zero, List.set_cons_succ, i64_w, i32_w]
    rfl
   refine puz_ 6 (some 6) (nb_ 8 95) rfl rfl (any_of HT_.out (by kernel_rfl)) ?_
   refine one_ (i := 5) (N := some 19) (nb_ 8 127) rfl rfl (one_of HT_.out (by kernel_rfl)) (by decide) (fun K hK => ?_)
   refine Kd.R_make_step (Kd.int .i64) _ 2 (by rfl) (N := 19) rfl 32 _ _ rfl a0_0 rfl rfl Tryd.underlying32 (.int .i64 0) 8 info2 rfl (by decide) (by omega) 0 (ok := fun _ => True) (okp := fun _ => True) rfl (fun _ hk => hk) trivial (od_) (Nat.le_trans (Nat.mul_le_mul_right _ (od_ : a0_0.toNat ≤ 35184372088832)) (by omega)) (Below.refl _ _) (Nat.le_refl _) ?_
   intro v108 w9 ho10 hb hg_ hnew_
   clear hg_ hnew_
   (first | rw [← Ny107.out] at ho10 | (simp only [Int.reduceToNat] at ho10; rw [← Ny107.out] at ho10))
   have n0_ := Aside0.mk (Kd.R_elder' (ra_ HO106.out) (Kd.R_base ho10) hb)
   have n1_ := Aside0.mk (Kd.R_lower (Kd.R_new' ho10 (Kd.R_lt (ra_ HO106.out))) (below_size (bl1_ HB.out GE103.out)))
   have n2_ := Aside0.mk (blk_below (g := gb103) (o := .cells #[.int .i64 a0_0, .slice A0_1 l0_1.length c0_1] 26 (0, 0)) (bk_ BK103.out) hb)
   have n3_ := Aside0.mk (below_step (bl1_ HB.out GE103.out) hb)
   clear HO106
   clear BK103
   clear HB
   have HO106 := n0_
   have HO109 := n1_
   have BK103 := n2_
   have HB := n3_
   clear n0_ n1_ n2_ n3_
   clear hb ho10
   refine hK.out _ _ ⟨(blk_cell BK103.out 0).trans rfl, (blk_cell BK103.out 1).trans rfl⟩ (fun hHeld => ?_)
   clear hK K
   refine norm_ (a' := ?_) ?_ ?_
   rotate_left
   ·show Act.put _ (some 19) _ = _
    simp only [Act.put, List.setIfInBounds_toArray, List.set_cons_zero, List.set_cons_succ, i64_w, i32_w]
    rfl
   exact norm_ (by simp only [putAll, Act.put, List.setIfInBounds_toArray, List.set_cons_zero, List.set_cons_succ]) (hCont (v105, v108) _ ⟨hHeld, (by (with_reducible repeat (first | apply Kd.R_alloc | apply Kd.R_drewN | apply Kd.R_drew)); exact Kd.R_mono HO106.out (fun _ hk => hk.2)), (by (with_reducible repeat (first | apply Kd.R_alloc | apply Kd.R_drewN | apply Kd.R_drew)); exact Kd.R_mono HO109.out (fun _ hk => hk.2)), (bk_ BK103.out), (bl1_ HB.out GE103.out)⟩)
  ·skip
   refine Kd.R_make_step (Kd.int .i64) _ 2 (by rfl) (N := 19) rfl 32 _ _ rfl a0_0 rfl rfl Tryd.underlying32 (.int .i64 0) 8 info2 rfl (by decide) (by omega) 0 (ok := fun _ => True) (okp := fun _ => True) rfl (fun _ hk => hk) trivial (od_) (Nat.le_trans (Nat.mul_le_mul_right _ (od_ : a0_0.toNat ≤ 35184372088832)) (by omega)) (Below.refl _ _) (Nat.le_refl _) ?_
   intro v108 w7 ho8 hb hg_ hnew_
   clear hg_ hnew_
   (first | rw [← Ny107.out] at ho8 | (simp only [Int.reduceToNat] at ho8; rw [← Ny107.out] at ho8))
   have n0_ := Aside0.mk (Kd.R_lower ho8 (below_size (bl1_ HB.out GE103.out)))
   have n1_ := Aside0.mk (blk_below (g := gb103) (o := .cells #[.int .i64 a0_0, .slice A0_1 l0_1.length c0_1] 26 (0, 0)) (bk_ BK103.out) hb)
   have n2_ := Aside0.mk (below_step (bl1_ HB.out GE103.out) hb)
   clear BK103
   clear HB
   have HO109 := n0_
   have BK103 := n1_
   have HB := n2_
   clear n0_ n1_ n2_
   clear hb ho8
   refine hK.out _ _ ⟨(blk_cell BK103.out 0).trans rfl, (blk_cell BK103.out 1).trans rfl⟩ (fun hHeld => ?_)
   clear hK K
   refine norm_ (a' := ?_) ?_ ?_
   rotate_left
   ·show Act.put _ (some 19) _ = _
    simp only [Act.put, List.setIfInBounds_toArray, List.set_cons_zero, List.set_cons_succ, i64_w, i32_w]
    rfl
   refine one_ (i := 2) (N := some 16) (nb_ 8 63) rfl rfl (one_of HT_.out (by kernel_rfl)) (by decide) (fun K hK => ?_)
   refine Kd.R_make_step (Kd.int .i64) _ 2 (by rfl) (N := 16) rfl 32 _ _ rfl a0_0 rfl rfl Tryd.underlying32 (.int .i64 0) 8 info2 rfl (by decide) (by omega) 0 (ok := fun _ => True) (okp := fun _ => True) rfl (fun _ hk => hk) trivial (od_) (Nat.le_trans (Nat.mul_le_mul_right _ (od_ : a0_0.toNat ≤ 35184372088832)) (by omega)) (Below.refl _ _) (Nat.le_refl _) ?_
   intro v105 w9 ho10 hb hg_ hnew_
   clear hg_ hnew_
   (first | rw [← Ny104.out] at ho10 | (simp only [Int.reduceToNat] at ho10; rw [← Ny104.out] at ho10))
   have n0_ := Aside0.mk (Kd.R_elder' (ra_ HO109.out) (Kd.R_base ho10) hb)
   have n1_ := Aside0.mk (Kd.R_lower (Kd.R_new' ho10 (Kd.R_lt (ra_ HO109.out))) (below_size (bl1_ HB.out GE103.out)))
   have n2_ := Aside0.mk (blk_below (g := gb103) (o := .cells #[.int .i64 a0_0, .slice A0_1 l0_1.length c0_1] 26 (0, 0)) (bk_ BK103.out) hb)
   have n3_ := Aside0.mk (below_step (bl1_ HB.out GE103.out) hb)
   clear HO109
   clear BK103
   clear HB
   have HO109 := n0_
   have HO106 := n1_
   have BK103 := n2_
   have HB := n3_
   clear n0_ n1_ n2_ n3_
   clear hb ho10
   refine hK.out _ _ ⟨(blk_cell BK103.out 0).trans rfl, (blk_cell BK103.out 1).trans rfl⟩ (fun hHeld => ?_)
   clear hK K
   refine norm_ (a' := ?_) ?_ ?_
   rotate_left
   ·show Act.put _ (some 16) _ = _
    simp only [Act.put, List.setIfInBounds_toArray, List.set_cons_zero, List.set_cons_succ, i64_w, i32_w]
    rfl
   refine puz_ 6 (some 6) (nb_ 8 127) rfl rfl (any_of HT_.out (by kernel_rfl)) ?_
   exact norm_ (by simp only [putAll, Act.put, List.setIfInBounds_toArray, List.set_cons_zero, List.set_cons_succ]) (hCont (v105, v108) _ ⟨hHeld, (by (with_reducible repeat (first | apply Kd.R_alloc | apply Kd.R_drewN | apply Kd.R_drew)); exact Kd.R_mono HO106.out (fun _ hk => hk.2)), (by (with_reducible repeat (first | apply Kd.R_alloc | apply Kd.R_drewN | apply Kd.R_drew)); exact Kd.R_mono HO109.out (fun _ hk => hk.2)), (bk_ BK103.out), (bl1_ HB.out GE103.out)⟩)
 rintro ⟨v105, v108⟩ w11 ⟨hS_, h0_, h1_, h2_, h3_⟩
 have n0_ : Aside0 (Kd.R (Kd.int .i64) 2 w11 w.heap.size (fun k_ => some k_ ≠ (v108 : Value).ownBlock) v105 y104) := ⟨h0_⟩
 have n1_ : Aside0 (Kd.R (Kd.int .i64) 2 w11 w.heap.size (fun k_ => some k_ ≠ (v105 : Value).ownBlock) v108 y107) := ⟨h1_⟩
 have n2_ : Aside0 (w11.heap[gb103]? = some (.cells #[.int .i64 a0_0, .slice A0_1 l0_1.length c0_1] 26 (0, 0))) := ⟨h2_⟩
 have n3_ : Aside0 (Below w.heap.size w w11) := ⟨h3_⟩
 clear BK103
 clear HB
 clear h0_ h1_ h2_ h3_
 have HO106 := n0_
 have HO109 := n1_
 have BK103 := n2_
 have HB := n3_
 clear n0_ n1_ n2_ n3_
 have hHeld : w11.cell? ⟨gb103, 0, none⟩ = some (.int .i64 a0_0) ∧ w11.cell? ⟨gb103, 1, none⟩ = some (.slice A0_1 l0_1.length c0_1) := hS_
 refine norm_ (a' := ?_) ?_ ?_
 rotate_left
 ·simp only [putAll, Act.put, List.setIfInBounds_toArray, List.set_cons_zero, List.set_cons_succ]
  rfl
 refine puz_ 7 (some 7) (nb_ 8 255) rfl rfl (any_of HT_.out (by kernel_rfl)) ?_
 refine done_ (done_of HT_.out (by kernel_rfl)) ?_
 obtain ⟨Ao12, co12, eo12⟩ := Kd.R_slice HO106.out
 subst eo12
 try go_wp2
 go_loopg [22] k (fun kq v22 w' => ∃ (x6_1 : List Int) (x7_1 : List Int) (x22_1 : Int), v22 = .int .i64 x22_1 ∧ Aside0 (impl_Tree_far.l0 kq a1 x6_1 x7_1 (y104.length : Int) x22_1 a0_0 l0_1 = some (r1, r2)) ∧ Aside0 (kq ≤ k) ∧ Aside0 (Kd.R (Kd.int .i64) 2 w' w.heap.size (fun k_ => some k_ ≠ (v108 : Value).ownBlock) (.slice Ao12 y104.length co12) x6_1) ∧ Aside0 (Kd.R (Kd.int .i64) 2 w' w.heap.size (fun k_ => some k_ ≠ ((.slice Ao12 y104.length co12) : Value).ownBlock) v108 x7_1) ∧ Aside0 (w'.heap[gb103]? = some (.cells #[.int .i64 a0_0, (.slice A0_1 l0_1.length c0_1)] 26 (0, 0))) ∧ Aside0 (Below w.heap.size w w'))
 case atStart => exact ⟨(y104), (y107), (0), rs_, H', ⟨Nat.le_refl _⟩, ⟨ra_ HO106.out⟩, ⟨ra_ HO109.out⟩, ⟨bk_ BK103.out⟩, ⟨bl1_ HB.out GE103.out⟩⟩
 case round =>
  clear H'
  try clear p2
  try clear c3
  try clear c3b0
  try clear c3b1
  try clear c4
  try clear c4b0
  try clear c4b1
  obtain ⟨x6_1, x7_1, x22_1, rfl, HA, HK1, HO_6, HO_7, BK103, HB⟩ := hrel
  have hl6_1 := (Kd.R_reads' HO_6.out).1
  rw [hl6_1] at HO_6
  (try simp only [hl6_1])
  (try simp only [hl6_1] at BK103)
  (try simp only [hl6_1] at HO_7)
  cases gk with
  | zero => exact absurd HA.out (by simp [impl_Tree_far.l0])
  | succ k1 =>
   have H := HA.out
   clear HA
   simp only [impl_Tree_far.l0] at H
   by_cases c13 : x22_1 < (y104.length : Int)
   ·rw [if_pos c13] at H
    have c13b0 := decide_eq_true c13
    (try (have c13b0_hl6_1 := c13b0; simp only [hl6_1] at c13b0_hl6_1))
    clear c13
    by_cases c14 : 0 ≤ x22_1
    rotate_left
    ·exact nope_ c14 H
    rw [if_pos c14] at H
    have c14b0 := decide_eq_true c14
    clear c14
    by_cases c15 : x22_1 < (x6_1.length : Int)
    rotate_left
    ·exact nope_ c15 H
    rw [if_pos c15] at H
    have c15b0 := decide_eq_true c15
    clear c15
    obtain ⟨y110, hy110⟩ : ∃ y_ : List Int, y_ = (x6_1.set (x22_1 : Int).toNat (-1)) := ⟨_, rfl⟩
    replace H : (if x22_1 < (x7_1.length : Int) then (impl_Tree_far.l0 k1 a1 y110 (x7_1.set (x22_1 : Int).toNat (-1)) (y104.length : Int) (wrap64 (x22_1 + 1)) a0_0 l0_1) else (none)) = some (r1, r2) := yh_ H hy110
    have Ny110 := Aside0.mk hy110
    clear hy110
    by_cases c17 : x22_1 < (x7_1.length : Int)
    rotate_left
    ·exact nope_ c17 H
    rw [if_pos c17] at H
    have c17b0 := decide_eq_true c17
    clear c17
    obtain ⟨y111, hy111⟩ : ∃ y_ : List Int, y_ = (x7_1.set (x22_1 : Int).toNat (-1)) := ⟨_, rfl⟩
    replace H : (impl_Tree_far.l0 k1 a1 y110 y111 (y104.length : Int) (wrap64 (x22_1 + 1)) a0_0 l0_1) = some (r1, r2) := yh_ H hy111
    have Ny111 := Aside0.mk hy111
    clear hy111
    have H' := Aside0.mk H
    clear H
    have p16 : 0 ≤ (x22_1 : Int) := od_
    have q16 : (x22_1 : Int) < ((x6_1.length : Int) : Int) := od_
    obtain ⟨go16, co16, eo16, gb16, gl16, cl16, HG16⟩ := Kd.R_form HO_6.out (by omega)
    (first | cases eo16 | (injection eo16 with ea_ en_ ec_; (first | subst ea_ | (injection ea_ with ea_; subst ea_)); subst ec_; clear en_))
    have GB16 := Aside0.mk gb16
    have GG16 := Aside0.mk HG16
    clear gb16 gl16 HG16
    obtain ⟨hx16_0, hf16_0⟩ := Kd.R_celln 0 HO_6.out (x22_1 : Int) p16 q16
    replace p16 := eq_true p16
    replace q16 := eq_true q16
    have HP19 := Kd.R_putg HO_6.out (x22_1 : Int) (-1)
    go_wp2_with (first | ((with_reducible refine gate_store (t := 2) (p := 29) rfl ?_); refine store_event (t := 2) (p := 29) (v := ?vo_w20) (w1 := (wr.setCell ⟨go16, (x22_1 : Int).toNat, none⟩ (.int .i64 (-1)))) ?hg ?ho ?hn ?hr ?_; (case ho => rfl); (case hg => rfl); (case hn => rfl); (case hr => first | (go_simp; done) | (go_simp; rfl)); intro w20 hw; have hg : wr.grownBy w20 (some go16) := (by rw [hw]; exact HP19.2); have hp_ : Kd.R (Kd.int .i64) 2 w20 w.heap.size (fun k_ => some k_ ≠ (v108 : Value).ownBlock) (.slice (some ⟨go16, 0, none⟩) x6_1.length co12) y110 := (by rw [hw, Ny110.out]; exact HP19.1); clear HP19; have n0_ := Aside0.mk (hp_); have n1_ := Aside0.mk (Kd.R_after (v := (.slice (some ⟨go16, 0, none⟩) x6_1.length co12)) (v1 := (.slice (some ⟨go16, 0, none⟩) x6_1.length co12)) (ok := (fun _ => True)) (by (with_reducible repeat (first | apply Kd.R_alloc | apply Kd.R_drewN | apply Kd.R_drew)); exact Kd.R_mono HO_7.out (fun _ hk => ⟨trivial, hk⟩)) hg (.inl rfl)); have n2_ := Aside0.mk (blk_grown (g := gb103) (o := .cells #[.int .i64 a0_0, .slice A0_1 l0_1.length c0_1] 26 (0, 0)) (bk_ BK103.out) hg (Kd.R_ne HO_6.out BK103.out (by decide))); have n3_ := Aside0.mk ((by rw [hw]; exact below_set (HB.out) GB16.out : Below w.heap.size w w20)); clear HO_6; clear HO_7; clear BK103; clear HB; have HO_6 := n0_; have HO_7 := n1_; have BK103 := n2_; have HB := n3_; clear n0_ n1_ n2_ n3_; clear hg hw hp_; have p18 : 0 ≤ (x22_1 : Int) := od_; have q18 : (x22_1 : Int) < ((x7_1.length : Int) : Int) := od_; obtain ⟨go18, co18, eo18, gb18, gl18, cl18, HG18⟩ := Kd.R_form HO_7.out (by omega); (first | cases eo18 | (injection eo18 with ea_ en_ ec_; (first | subst ea_ | (injection ea_ with ea_; subst ea_)); subst ec_; clear en_)); have GB18 := Aside0.mk gb18; have GG18 := Aside0.mk HG18; clear gb18 gl18 HG18; obtain ⟨hx18_0, hf18_0⟩ := Kd.R_celln 0 HO_7.out (x22_1 : Int) p18 q18; replace p18 := eq_true p18; replace q18 := eq_true q18; have n_ := Aside0.mk (Kd.R_mono (ok' := (fun k_ => some k_ ≠ (.slice (some ⟨go16, 0, none⟩) x6_1.length co12 : Value).ownBlock)) HO_7.out (fun k_ hk => hk.2)); clear HO_7; have HO_7 := n_; clear n_; obtain ⟨hy21_, hz21_⟩ := Kd.R_celln 0 HO_7.out (x22_1 : Int) (od_) (od_); have HP21 := Kd.R_putg HO_7.out (x22_1 : Int) (-1)) | ((with_reducible refine gate_store (t := 2) (p := 30) rfl ?_); refine store_event (t := 2) (p := 30) (v := ?vo_w22) (w1 := (w20.setCell ⟨go18, (x22_1 : Int).toNat, none⟩ (.int .i64 (-1)))) ?hg ?ho ?hn ?hr ?_; (case ho => rfl); (case hg => rfl); (case hn => rfl); (case hr => first | (go_simp; done) | (go_simp; rfl)); intro w22 hw; have hg : w20.grownBy w22 (some go18) := (by rw [hw]; exact HP21.2); have hp_ : Kd.R (Kd.int .i64) 2 w22 w.heap.size (fun k_ => some k_ ≠ (.slice (some ⟨go16, 0, none⟩) x6_1.length co12 : Value).ownBlock) (.slice (some ⟨go18, 0, none⟩) x7_1.length co18) y111 := (by rw [hw, Ny111.out]; exact HP21.1); clear HP21; have n0_ := Aside0.mk (Kd.R_after (v := (.slice (some ⟨go18, 0, none⟩) x7_1.length co18)) (v1 := (.slice (some ⟨go18, 0, none⟩) x7_1.length co18)) (ok := (fun _ => True)) (by (with_reducible repeat (first | apply Kd.R_alloc | apply Kd.R_drewN | apply Kd.R_drew)); exact Kd.R_mono HO_6.out (fun _ hk => ⟨trivial, hk⟩)) hg (.inl rfl)); have n1_ := Aside0.mk (hp_); have n2_ := Aside0.mk (blk_grown (g := gb103) (o := .cells #[.int .i64 a0_0, .slice A0_1 l0_1.length c0_1] 26 (0, 0)) (bk_ BK103.out) hg (Kd.R_ne HO_7.out BK103.out (by decide))); have n3_ := Aside0.mk ((by rw [hw]; exact below_set (HB.out) GB18.out : Below w.heap.size w w22)); clear HO_6; clear HO_7; clear BK103; clear HB; have HO_6 := n0_; have HO_7 := n1_; have BK103 := n2_; have HB := n3_; clear n0_ n1_ n2_ n3_; clear hg hw hp_))
    (try simp only [← hl6_1])
    go_roundg k1
    case measure => have := HK1.out; omega
    case rel => exact ⟨(y110), (y111), (wrap64 (x22_1 + 1)), rs_, H', ⟨by have := HK1.out; omega⟩, ⟨by (try simp only [hl6_1]); (with_reducible repeat (first | apply Kd.R_alloc | apply Kd.R_drewN | apply Kd.R_drew)); exact Kd.R_mono HO_6.out (fun _ hk => hk.2)⟩, ⟨by (try simp only [hl6_1]); (with_reducible repeat (first | apply Kd.R_alloc | apply Kd.R_drewN | apply Kd.R_drew)); exact HO_7.out⟩, ⟨by (try simp only [hl6_1]); (with_reducible repeat (first | refine blk_drewN ?_ _ | refine blk_drew ?_ | refine blk_alloc ?_ _)); exact BK103.out⟩, ⟨bl1_ HB.out GE103.out⟩⟩
   ·rw [if_neg c13] at H
    have c13b0 := decide_eq_false c13
    (try (have c13b0_hl6_1 := c13b0; simp only [hl6_1] at c13b0_hl6_1))
    clear c13
    by_cases c23 : 0 ≤ a1
    rotate_left
    ·exact nope_ c23 H
    rw [if_pos c23] at H
    have c23b0 := decide_eq_true c23
    clear c23
    by_cases c24 : a1 < (x6_1.length : Int)
    rotate_left
    ·exact nope_ c24 H
    rw [if_pos c24] at H
    have c24b0 := decide_eq_true c24
    clear c24
    obtain ⟨y112, hy112⟩ : ∃ y_ : List Int, y_ = (x6_1.set (a1 : Int).toNat 0) := ⟨_, rfl⟩
    replace H : (impl_Tree_far.l1 k1 y112 x7_1 true a0_0 l0_1) = some (r1, r2) := yh_ H hy112
    have Ny112 := Aside0.mk hy112
    clear hy112
    have H' := Aside0.mk H
    clear H
    have p25 : 0 ≤ (a1 : Int) := od_
    have q25 : (a1 : Int) < ((x6_1.length : Int) : Int) := od_
    obtain ⟨go25, co25, eo25, gb25, gl25, cl25, HG25⟩ := Kd.R_form HO_6.out (by omega)
    (first | cases eo25 | (injection eo25 with ea_ en_ ec_; (first | subst ea_ | (injection ea_ with ea_; subst ea_)); subst ec_; clear en_))
    have GB25 := Aside0.mk gb25
    have GG25 := Aside0.mk HG25
    clear gb25 gl25 HG25
    obtain ⟨hx25_0, hf25_0⟩ := Kd.R_celln 0 HO_6.out (a1 : Int) p25 q25
    replace p25 := eq_true p25
    replace q25 := eq_true q25
    have HP26 := Kd.R_putg HO_6.out (a1 : Int) 0
    go_wp2_with (first | ((with_reducible refine gate_store (t := 2) (p := 34) rfl ?_); refine store_event (t := 2) (p := 34) (v := ?vo_w27) (w1 := (wr.setCell ⟨go25, (a1 : Int).toNat, none⟩ (.int .i64 0))) ?hg ?ho ?hn ?hr ?_; (case ho => rfl); (case hg => rfl); (case hn => rfl); (case hr => first | (go_simp; done) | (go_simp; rfl)); intro w27 hw; have hg : wr.grownBy w27 (some go25) := (by rw [hw]; exact HP26.2); have hp_ : Kd.R (Kd.int .i64) 2 w27 w.heap.size (fun k_ => some k_ ≠ (v108 : Value).ownBlock) (.slice (some ⟨go25, 0, none⟩) x6_1.length co12) y112 := (by rw [hw, Ny112.out]; exact HP26.1); clear HP26; have n0_ := Aside0.mk (hp_); have n1_ := Aside0.mk (Kd.R_after (v := (.slice (some ⟨go25, 0, none⟩) x6_1.length co12)) (v1 := (.slice (some ⟨go25, 0, none⟩) x6_1.length co12)) (ok := (fun _ => True)) (by (with_reducible repeat (first | apply Kd.R_alloc | apply Kd.R_drewN | apply Kd.R_drew)); exact Kd.R_mono HO_7.out (fun _ hk => ⟨trivial, hk⟩)) hg (.inl rfl)); have n2_ := Aside0.mk (blk_grown (g := gb103) (o := .cells #[.int .i64 a0_0, .slice A0_1 l0_1.length c0_1] 26 (0, 0)) (bk_ BK103.out) hg (Kd.R_ne HO_6.out BK103.out (by decide))); have n3_ := Aside0.mk ((by rw [hw]; exact below_set (HB.out) GB25.out : Below w.heap.size w w27)); clear HO_6; clear HO_7; clear BK103; clear HB; have HO_6 := n0_; have HO_7 := n1_; have BK103 := n2_; have HB := n3_; clear n0_ n1_ n2_ n3_; clear hg hw hp_))
    go_loopg [9] k1 (fun kq v9 w' => ∃ (x6_2 : List Int) (x7_2 : List Int) (x9_2 : Bool), v9 = .bool x9_2 ∧ Aside0 (impl_Tree_far.l1 kq x6_2 x7_2 x9_2 a0_0 l0_1 = some (r1, r2)) ∧ Aside0 (kq ≤ k1) ∧ Aside0 (Kd.R (Kd.int .i64) 2 w' w.heap.size (fun k_ => some k_ ≠ (v108 : Value).ownBlock) (.slice (some ⟨go25, 0, none⟩) x6_1.length co12) x6_2) ∧ Aside0 (Kd.R (Kd.int .i64) 2 w' w.heap.size (fun k_ => some k_ ≠ ((.slice (some ⟨go25, 0, none⟩) x6_1.length co12) : Value).ownBlock) v108 x7_2) ∧ Aside0 (w'.heap[gb103]? = some (.cells #[.int .i64 a0_0, (.slice A0_1 l0_1.length c0_1)] 26 (0, 0))) ∧ Aside0 (Below w.heap.size w w'))
    case atStart => exact ⟨(y112), (x7_1), (true), rs_, H', ⟨Nat.le_refl _⟩, ⟨by (try simp only [hl6_1]); (with_reducible repeat (first | apply Kd.R_alloc | apply Kd.R_drewN | apply Kd.R_drew)); exact HO_6.out⟩, ⟨by (try simp only [hl6_1]); (with_reducible repeat (first | apply Kd.R_alloc | apply Kd.R_drewN | apply Kd.R_drew)); exact Kd.R_mono HO_7.out (fun _ hk => hk.2)⟩, ⟨by (try simp only [hl6_1]); (with_reducible repeat (first | refine blk_drewN ?_ _ | refine blk_drew ?_ | refine blk_alloc ?_ _)); exact BK103.out⟩, ⟨bl1_ HB.out GE103.out⟩⟩
    case round =>
     clear H'
     try clear c1
     try clear p1
     try clear q1
     try clear hx1
     try clear c2
     try clear p2
     try clear q2
     try clear hx2
     try clear hf2
     try clear c3
     try clear c3b0
     try clear c3b1
     try clear c4
     try clear c4b0
     try clear c4b1
     try clear p6
     try clear c13
     try clear c13b0
     try clear c14
     try clear c14b0
     try clear c15
     try clear c15b0
     try clear p16
     try clear q16
     try clear hx16
     try clear hf16
     try clear c17
     try clear c17b0
     try clear p18
     try clear q18
     try clear hx18
     try clear hf18
     try clear c23
     try clear c23b0
     try clear c24
     try clear c24b0
     try clear p25
     try clear q25
     try clear hx25
     try clear hf25
     try clear hx16_0
     try clear hx18_0
     try clear hx25_0
     try clear p16
     try clear p18
     try clear p2
     try clear p25
     try clear q16
     try clear q18
     try clear q25
     obtain ⟨x6_2, x7_2, x9_2, rfl, HA, HK2, HO_6, HO_7, BK103, HB⟩ := hrel
     have hl6_2 := (Kd.R_reads' HO_6.out).1
     rw [hl6_2] at HO_6
     (try simp only [hl6_2])
     (try simp only [hl6_2] at BK103)
     (try simp only [hl6_2] at HO_7)
     cases gk with
     | zero => exact absurd HA.out (by simp [impl_Tree_far.l1])
     | succ k2 =>
      have H := HA.out
      clear HA
      simp only [impl_Tree_far.l1] at H
      by_cases c28 : x9_2 = true
      ·subst c28
       have H1 : (impl_Tree_far.l2 k2 x6_2 x7_2 false l0_1 (l0_1.length : Int) 0 a0_0 l0_1) = some (r1, r2) := by rw [if_pos rfl] at H; exact H
       clear H
       have H := H1
       clear H1
       have H' := Aside0.mk H
       clear H
       obtain ⟨hcz29_0, hcz29_1, hfz29_0, hfz29_1⟩ := cz2_ BK103.out
       go_wp2
       go_loopg [9, 39] k2 (fun kq v9 v39 w' => ∃ (x6_3 : List Int) (x7_3 : List Int) (x9_3 : Bool) (x39_3 : Int), v9 = .bool x9_3 ∧ v39 = .int .i64 x39_3 ∧ Aside0 (impl_Tree_far.l2 kq x6_3 x7_3 x9_3 l0_1 (l0_1.length : Int) x39_3 a0_0 l0_1 = some (r1, r2)) ∧ Aside0 (kq ≤ k2) ∧ Aside0 (Kd.R (Kd.int .i64) 2 w' w.heap.size (fun k_ => some k_ ≠ (v108 : Value).ownBlock) (.slice (some ⟨go25, 0, none⟩) x6_2.length co12) x6_3) ∧ Aside0 (Kd.R (Kd.int .i64) 2 w' w.heap.size (fun k_ => some k_ ≠ ((.slice (some ⟨go25, 0, none⟩) x6_2.length co12) : Value).ownBlock) v108 x7_3) ∧ Aside0 (w'.heap[gb103]? = some (.cells #[.int .i64 a0_0, (.slice A0_1 l0_1.length c0_1)] 26 (0, 0))) ∧ Aside0 (Below w.heap.size w w'))
       case atStart => exact ⟨(x6_2), (x7_2), (false), (0), rs_, rs_, H', ⟨Nat.le_refl _⟩, ⟨by (try simp only [hl6_1]); (try simp only [hl6_2]); (with_reducible repeat (first | apply Kd.R_alloc | apply Kd.R_drewN | apply Kd.R_drew)); exact HO_6.out⟩, ⟨by (try simp only [hl6_1]); (try simp only [hl6_2]); (with_reducible repeat (first | apply Kd.R_alloc | apply Kd.R_drewN | apply Kd.R_drew)); exact HO_7.out⟩, ⟨by (try simp only [hl6_1]); (try simp only [hl6_2]); (with_reducible repeat (first | refine blk_drewN ?_ _ | refine blk_drew ?_ | refine blk_alloc ?_ _)); exact BK103.out⟩, ⟨bl1_ HB.out GE103.out⟩⟩
       case round =>
        clear H'
        try clear c1
        try clear p1
        try clear q1
        try clear hx1
        try clear c2
        try clear p2
        try clear q2
        try clear hx2
        try clear hf2
        try clear c3
        try clear c3b0
        try clear c3b1
        try clear c4
        try clear c4b0
        try clear c4b1
        try clear p6
        try clear c13
        try clear c13b0
        try clear c14
        try clear c14b0
        try clear c15
        try clear c15b0
        try clear p16
        try clear q16
        try clear hx16
        try clear hf16
        try clear c17
        try clear c17b0
        try clear p18
        try clear q18
        try clear hx18
        try clear hf18
        try clear c23
        try clear c23b0
        try clear c24
        try clear c24b0
        try clear p25
        try clear q25
        try clear hx25
        try clear hf25
        try clear c28
        try clear hcz29_0
        try clear hcz29_1
        try clear hfz29_0
        try clear hfz29_1
        try clear hx16_0
        try clear hx18_0
        try clear hx25_0
        try clear p1
        try clear p16
        try clear p18
        try clear p2
        try clear p25
        try clear p6
        try clear q1
        try clear q16
        try clear q18
        try clear q2
        try clear q25
        obtain ⟨x6_3, x7_3, x9_3, x39_3, rfl, rfl, HA, HK3, HO_6, HO_7, BK103, HB⟩ := hrel
        have hl6_3 := (Kd.R_reads' HO_6.out).1
        rw [hl6_3] at HO_6
        (try simp only [hl6_3])
        (try simp only [hl6_3] at BK103)
        (try simp only [hl6_3] at HO_7)
        cases gk with
        | zero => exact absurd HA.out (by simp [impl_Tree_far.l2])
        | succ k3 =>
         have H := HA.out
         clear HA
         simp only [impl_Tree_far.l2] at H
         by_cases c30 : x39_3 < (l0_1.length : Int)
         ·rw [if_pos c30] at H
          have c30b0 := decide_eq_true c30
          clear c30
          by_cases c31 : 0 ≤ x39_3
          rotate_left
          ·exact nope_ c31 H
          rw [if_pos c31] at H
          have c31b0 := decide_eq_true c31
          clear c31
          by_cases c32 : x39_3 < (l0_1.length : Int)
          rotate_left
          ·exact nope_ c32 H
          rw [if_pos c32] at H
          have c32b0 := decide_eq_true c32
          clear c32
          have H' := Aside0.mk H
          clear H
          have p113 : 0 ≤ (x39_3 : Int) := od_
          have q113 : x39_3 < (l0_1.length : Int) := od_
          obtain ⟨ad113, e113, hx113_0, hx113_1, hx113_2⟩ := at_T52 HR0_1.out x39_3 p113 q113
          cases e113
          replace hx113_0 := (HB.out.cell (World.block_lt_of_cell? w _ hx113_0)).trans hx113_0
          replace hx113_1 := (HB.out.cell (World.block_lt_of_cell? w _ hx113_1)).trans hx113_1
          replace hx113_2 := (HB.out.cell (World.block_lt_of_cell? w _ hx113_2)).trans hx113_2
          replace p113 := eq_true p113
          replace q113 := eq_true q113
          go_wp2_with (first | ((with_reducible refine gate_dst (N := 11) rfl ?_); refine box_event ?hg (N := 11) ?hd (cs := #[.int .i64 0, .int .i64 0, .int .i64 0]) (t := 52) ?hr ?_; (case hd => rfl); (case hg => rfl); (case hr => first | (go_simp; done) | (go_simp; rfl)); intro gb114 hg w33 hbox hb; have n0_ := Aside0.mk (Kd.R_below (ra_ HO_6.out) hb); have n1_ := Aside0.mk (Kd.R_below (ra_ HO_7.out) hb); have n2_ := Aside0.mk (blk_below (g := gb103) (o := .cells #[.int .i64 a0_0, .slice (some ad113) l0_1.length c0_1] 26 (0, 0)) (bk_ BK103.out) hb); have n3_ := Aside0.mk (below_step (bl1_ HB.out GE103.out) hb); have n4_ := Aside0.mk (hbox); have n5_ := Aside0.mk ((by rw [hg]; exact (below_size (bl1_ HB.out GE103.out)) : w.heap.size ≤ gb114)); have n6_ := Aside0.mk ((by rw [hg]; exact (below_size (bl1_ HB.out GE103.out)) : w.heap.size ≤ gb114)); have n7_ := Aside0.mk ((by rw [hg]; exact Nat.ne_of_lt (blk_lt (bk_ BK103.out)) : gb103 ≠ gb114)); have n8_ := Aside0.mk ((by rw [hg]; exact Nat.ne_of_gt (blk_lt (bk_ BK103.out)) : gb114 ≠ gb103)); clear HO_6; clear HO_7; clear BK103; clear HB; have HO_6 := n0_; have HO_7 := n1_; have BK103 := n2_; have HB := n3_; have BK114 := n4_; have GW114 := n5_; have GE114 := n6_; have NB103_114 := n7_; have NB114_103 := n8_; clear n0_ n1_ n2_ n3_ n4_ n5_ n6_ n7_ n8_; clear hb hbox hg; have hnb34 := NB114_103.out; have hnc34 := NB103_114.out; obtain ⟨hcz35_0, hcz35_1, hcz35_2, hfz35_0, hfz35_1, hfz35_2⟩ := cz3_ BK114.out))
          go_loopg [9, 54] k3 (fun kq v9 v54 w' => ∃ (x6_4 : List Int) (x7_4 : List Int) (x9_4 : Bool) (x54_4 : Int), v9 = .bool x9_4 ∧ v54 = .int .i64 x54_4 ∧ Aside0 (impl_Tree_far.l3 kq x6_4 x7_4 x9_4 l0_1 (l0_1.length : Int) x39_3 x54_4 a0_0 l0_1 ((rd_T52 l0_1 x39_3).f0) ((rd_T52 l0_1 x39_3).f1) ((rd_T52 l0_1 x39_3).f2) ((rd_T52 l0_1 x39_3).f1) ((rd_T52 l0_1 x39_3).f0) ((rd_T52 l0_1 x39_3).f0) ((rd_T52 l0_1 x39_3).f1) ((rd_T52 l0_1 x39_3).f1) ((rd_T52 l0_1 x39_3).f0) = some (r1, r2)) ∧ Aside0 (kq ≤ k3) ∧ Aside0 (Kd.R (Kd.int .i64) 2 w' w.heap.size (fun k_ => some k_ ≠ (v108 : Value).ownBlock) (.slice (some ⟨go25, 0, none⟩) x6_3.length co12) x6_4) ∧ Aside0 (Kd.R (Kd.int .i64) 2 w' w.heap.size (fun k_ => some k_ ≠ ((.slice (some ⟨go25, 0, none⟩) x6_3.length co12) : Value).ownBlock) v108 x7_4) ∧ Aside0 (w'.heap[gb103]? = some (.cells #[.int .i64 a0_0, (.slice (some ad113) l0_1.length c0_1)] 26 (0, 0))) ∧ Aside0 (w'.heap[gb114]? = some (.cells #[.int .i64 ((rd_T52 l0_1 x39_3).f0), .int .i64 ((rd_T52 l0_1 x39_3).f1), .int .i64 ((rd_T52 l0_1 x39_3).f2)] 52 (0, 0))) ∧ Aside0 (Below w.heap.size w w'))
          case atStart => exact ⟨(x6_3), (x7_3), (x9_3), (0), rs_, rs_, H', ⟨Nat.le_refl _⟩, ⟨by (try simp only [hl6_1]); (try simp only [hl6_2]); (try simp only [hl6_3]); (with_reducible repeat (first | apply Kd.R_alloc | apply Kd.R_drewN | apply Kd.R_drew)); exact Kd.R_mono (Kd.R_far (p := ⟨gb114, 2, none⟩) (Kd.R_far (p := ⟨gb114, 1, none⟩) (Kd.R_far (p := ⟨gb114, 0, none⟩) (Kd.R_types HO_6.out BK114.out (by decide)) (fun _ hk => hk.2) (.int .i64 ((rd_T52 l0_1 x39_3).f0))) (fun _ hk => hk.2) (.int .i64 ((rd_T52 l0_1 x39_3).f1))) (fun _ hk => hk.2) (.int .i64 ((rd_T52 l0_1 x39_3).f2))) (fun _ hk => hk.1)⟩, ⟨by (try simp only [hl6_1]); (try simp only [hl6_2]); (try simp only [hl6_3]); (with_reducible repeat (first | apply Kd.R_alloc | apply Kd.R_drewN | apply Kd.R_drew)); exact Kd.R_mono (Kd.R_far (p := ⟨gb114, 2, none⟩) (Kd.R_far (p := ⟨gb114, 1, none⟩) (Kd.R_far (p := ⟨gb114, 0, none⟩) (Kd.R_types HO_7.out BK114.out (by decide)) (fun _ hk => hk.2) (.int .i64 ((rd_T52 l0_1 x39_3).f0))) (fun _ hk => hk.2) (.int .i64 ((rd_T52 l0_1 x39_3).f1))) (fun _ hk => hk.2) (.int .i64 ((rd_T52 l0_1 x39_3).f2))) (fun _ hk => hk.1)⟩, ⟨by (try simp only [hl6_1]); (try simp only [hl6_2]); (try simp only [hl6_3]); (with_reducible repeat (first | refine blk_drewN ?_ _ | refine blk_drew ?_ | refine blk_alloc ?_ _)); refine blk_far ?_ NB103_114.out _; (with_reducible repeat (first | refine blk_drewN ?_ _ | refine blk_drew ?_ | refine blk_alloc ?_ _)); refine blk_far ?_ NB103_114.out _; (with_reducible repeat (first | refine blk_drewN ?_ _ | refine blk_drew ?_ | refine blk_alloc ?_ _)); refine blk_far ?_ NB103_114.out _; (with_reducible repeat (first | refine blk_drewN ?_ _ | refine blk_drew ?_ | refine blk_alloc ?_ _)); exact BK103.out⟩, ⟨by (try simp only [hl6_1]); (try simp only [hl6_2]); (try simp only [hl6_3]); (with_reducible repeat (first | refine blk_drewN ?_ _ | refine blk_drew ?_ | refine blk_alloc ?_ _)); refine blk_put (cs := #[.int .i64 ((rd_T52 l0_1 x39_3).f0), .int .i64 ((rd_T52 l0_1 x39_3).f1), .int .i64 0]) ?_ 2 _ rfl; (with_reducible repeat (first | refine blk_drewN ?_ _ | refine blk_drew ?_ | refine blk_alloc ?_ _)); refine blk_put (cs := #[.int .i64 ((rd_T52 l0_1 x39_3).f0), .int .i64 0, .int .i64 0]) ?_ 1 _ rfl; (with_reducible repeat (first | refine blk_drewN ?_ _ | refine blk_drew ?_ | refine blk_alloc ?_ _)); refine blk_put (cs := #[.int .i64 0, .int .i64 0, .int .i64 0]) ?_ 0 _ rfl; (with_reducible repeat (first | refine blk_drewN ?_ _ | refine blk_drew ?_ | refine blk_alloc ?_ _)); exact BK114.out⟩, ⟨bl2_ HB.out GE103.out GE114.out⟩⟩
          case round =>
           clear H'
           try clear c1
           try clear p1
           try clear q1
           try clear hx1
           try clear c2
           try clear p2
           try clear q2
           try clear hx2
           try clear hf2
           try clear c3
           try clear c3b0
           try clear c3b1
           try clear c4
           try clear c4b0
           try clear c4b1
           try clear p6
           try clear p11
           try clear q11
           try clear hx11
           try clear c13
           try clear c13b0
           try clear c14
           try clear c14b0
           try clear c15
           try clear c15b0
           try clear p16
           try clear q16
           try clear hx16
           try clear hf16
           try clear c17
           try clear c17b0
           try clear p18
           try clear q18
           try clear hx18
           try clear hf18
           try clear c23
           try clear c23b0
           try clear c24
           try clear c24b0
           try clear p25
           try clear q25
           try clear hx25
           try clear hf25
           try clear c28
           try clear c30
           try clear c30b0
           try clear c31
           try clear c31b0
           try clear c32
           try clear c32b0
           try clear c34
           try clear hcz29_0
           try clear hcz29_1
           try clear hcz35_0
           try clear hcz35_1
           try clear hcz35_2
           try clear hfz29_0
           try clear hfz29_1
           try clear hfz35_0
           try clear hfz35_1
           try clear hfz35_2
           try clear hx113_0
           try clear hx113_1
           try clear hx113_2
           try clear hx16_0
           try clear hx18_0
           try clear hx25_0
           try clear p1
           try clear p113
           try clear p16
           try clear p18
           try clear p2
           try clear p25
           try clear p6
           try clear q1
           try clear q113
           try clear q16
           try clear q18
           try clear q2
           try clear q25
           obtain ⟨x6_4, x7_4, x9_4, x54_4, rfl, rfl, HA, HK4, HO_6, HO_7, BK103, BK114, HB⟩ := hrel
           have hl6_4 := (Kd.R_reads' HO_6.out).1
           rw [hl6_4] at HO_6
           (try simp only [hl6_4])
           (try simp only [hl6_4] at BK103)
           (try simp only [hl6_4] at BK114)
           (try simp only [hl6_4] at HO_7)
           cases gk with
           | zero => exact absurd HA.out (by simp [impl_Tree_far.l3])
           | succ k4 =>
            have H := HA.out
            clear HA
            simp only [impl_Tree_far.l3] at H
            by_cases c36 : x54_4 < 2
            ·rw [if_pos c36] at H
             have c36b0 := decide_eq_true c36
             clear c36
             by_cases c37 : x54_4 = 0
             ·rw [if_pos c37] at H
              have c37b0 : (x54_4 == 0) = true := beq_iff_eq.mpr c37
              have c37b1 : (x54_4 != 0) = false := bne_eq_false_iff_eq.mpr c37
              clear c37
              by_cases c39 : 0 ≤ ((rd_T52 l0_1 x39_3).f0)
              rotate_left
              ·exact nope_ c39 H
              rw [if_pos c39] at H
              have c39b0 := decide_eq_true c39
              clear c39
              by_cases c40 : ((rd_T52 l0_1 x39_3).f0) < (x6_4.length : Int)
              rotate_left
              ·exact nope_ c40 H
              rw [if_pos c40] at H
              have c40b0 := decide_eq_true c40
              clear c40
              by_cases c41 : (rd x6_4 ((rd_T52 l0_1 x39_3).f0)) ≥ 0
              ·rw [if_pos c41] at H
               have c41b0 : decide (0 ≤ (rd x6_4 ((rd_T52 l0_1 x39_3).f0))) = true := decide_eq_true c41
               clear c41
               by_cases c42 : 0 ≤ ((rd_T52 l0_1 x39_3).f1)
               rotate_left
               ·exact nope_ c42 H
               rw [if_pos c42] at H
               have c42b0 := decide_eq_true c42
               clear c42
               by_cases c43 : ((rd_T52 l0_1 x39_3).f1) < (x6_4.length : Int)
               rotate_left
               ·exact nope_ c43 H
               rw [if_pos c43] at H
               have c43b0 := decide_eq_true c43
               clear c43
               by_cases c44 : (rd x6_4 ((rd_T52 l0_1 x39_3).f1)) < 0
               ·rw [if_pos c44] at H
                have c44b0 := decide_eq_true c44
                clear c44
                obtain ⟨y119, hy119⟩ : ∃ y_ : List Int, y_ = (x6_4.set (((rd_T52 l0_1 x39_3).f1) : Int).toNat (wrap64 ((rd x6_4 ((rd_T52 l0_1 x39_3).f0)) + ((rd_T52 l0_1 x39_3).f2)))) := ⟨_, rfl⟩
                replace H : (if ((rd_T52 l0_1 x39_3).f1) < (x7_4.length : Int) then (impl_Tree_far.l3 k4 y119 (x7_4.set (((rd_T52 l0_1 x39_3).f1) : Int).toNat ((rd_T52 l0_1 x39_3).f0)) true l0_1 (l0_1.length : Int) x39_3 (wrap64 (x54_4 + 1)) a0_0 l0_1 ((rd_T52 l0_1 x39_3).f0) ((rd_T52 l0_1 x39_3).f1) ((rd_T52 l0_1 x39_3).f2) ((rd_T52 l0_1 x39_3).f1) ((rd_T52 l0_1 x39_3).f0) ((rd_T52 l0_1 x39_3).f0) ((rd_T52 l0_1 x39_3).f1) ((rd_T52 l0_1 x39_3).f1) ((rd_T52 l0_1 x39_3).f0)) else (none)) = some (r1, r2) := yh_ H hy119
                have Ny119 := Aside0.mk hy119
                clear hy119
                by_cases c46 : ((rd_T52 l0_1 x39_3).f1) < (x7_4.length : Int)
                rotate_left
                ·exact nope_ c46 H
                rw [if_pos c46] at H
                have c46b0 := decide_eq_true c46
                clear c46
                obtain ⟨y120, hy120⟩ : ∃ y_ : List Int, y_ = (x7_4.set (((rd_T52 l0_1 x39_3).f1) : Int).toNat ((rd_T52 l0_1 x39_3).f0)) := ⟨_, rfl⟩
                replace H : (impl_Tree_far.l3 k4 y119 y120 true l0_1 (l0_1.length : Int) x39_3 (wrap64 (x54_4 + 1)) a0_0 l0_1 ((rd_T52 l0_1 x39_3).f0) ((rd_T52 l0_1 x39_3).f1) ((rd_T52 l0_1 x39_3).f2) ((rd_T52 l0_1 x39_3).f1) ((rd_T52 l0_1 x39_3).f0) ((rd_T52 l0_1 x39_3).f0) ((rd_T52 l0_1 x39_3).f1) ((rd_T52 l0_1 x39_3).f1) ((rd_T52 l0_1 x39_3).f0)) = some (r1, r2) := yh_ H hy120
                have Ny120 := Aside0.mk hy120
                clear hy120
                have H' := Aside0.mk H
                clear H
                have hix38 : ∀ W_ : World, (Instr.index 79 (.agg #[.int .i64 ((rd_T52 l0_1 x39_3).f0), .int .i64 ((rd_T52 l0_1 x39_3).f1), .int .i64 ((rd_T52 l0_1 x39_3).f1), .int .i64 ((rd_T52 l0_1 x39_3).f0)]) (.int .i64 x54_4)).run Tryd.prog W_ = .ok (.agg #[.int .i64 ((rd_T52 l0_1 x39_3).f0), .int .i64 ((rd_T52 l0_1 x39_3).f1)]) W_ := fun W_ => by have e_ : (x54_4 : Int) = 0 := (by simpa using (show (x54_4 == 0) = true from (by assumption))); rw [e_]; rfl
                try go_wp2_with (first | ((with_reducible refine gate_dst (N := 13) rfl ?_); refine box_event ?hg (N := 13) ?hd (cs := #[.int .i64 0, .int .i64 0]) (t := 78) ?hr ?_; (case hd => rfl); (case hg => rfl); (case hr => first | (go_simp; done) | (go_simp; rfl)); intro gb115 hg w48 hbox hb; have n0_ := Aside0.mk (Kd.R_below (ra_ HO_6.out) hb); have n1_ := Aside0.mk (Kd.R_below (ra_ HO_7.out) hb); have n2_ := Aside0.mk (blk_below (g := gb103) (o := .cells #[.int .i64 a0_0, .slice (some ad113) l0_1.length c0_1] 26 (0, 0)) (bk_ BK103.out) hb); have n3_ := Aside0.mk (blk_below (g := gb114) (o := .cells #[.int .i64 ((rd_T52 l0_1 x39_3).f0), .int .i64 ((rd_T52 l0_1 x39_3).f1), .int .i64 ((rd_T52 l0_1 x39_3).f2)] 52 (0, 0)) (bk_ BK114.out) hb); have n4_ := Aside0.mk (below_step (bl2_ HB.out GE103.out GE114.out) hb); have n5_ := Aside0.mk (hbox); have n6_ := Aside0.mk ((by rw [hg]; exact (below_size (bl2_ HB.out GE103.out GE114.out)) : w.heap.size ≤ gb115)); have n7_ := Aside0.mk ((by rw [hg]; exact (below_size (bl2_ HB.out GE103.out GE114.out)) : w.heap.size ≤ gb115)); have n8_ := Aside0.mk ((by rw [hg]; exact Nat.ne_of_lt (blk_lt (bk_ BK103.out)) : gb103 ≠ gb115)); have n9_ := Aside0.mk ((by rw [hg]; exact Nat.ne_of_gt (blk_lt (bk_ BK103.out)) : gb115 ≠ gb103)); have n10_ := Aside0.mk ((by rw [hg]; exact Nat.ne_of_lt (blk_lt (bk_ BK114.out)) : gb114 ≠ gb115)); have n11_ := Aside0.mk ((by rw [hg]; exact Nat.ne_of_gt (blk_lt (bk_ BK114.out)) : gb115 ≠ gb114)); clear HO_6; clear HO_7; clear BK103; clear BK114; clear HB; have HO_6 := n0_; have HO_7 := n1_; have BK103 := n2_; have BK114 := n3_; have HB := n4_; have BK115 := n5_; have GW115 := n6_; have GE115 := n7_; have NB103_115 := n8_; have NB115_103 := n9_; have NB114_115 := n10_; have NB115_114 := n11_; clear n0_ n1_ n2_ n3_ n4_ n5_ n6_ n7_ n8_ n9_ n10_ n11_; clear hb hbox hg; have hnb49 := NB115_103.out; have hnc49 := NB103_115.out; have hnb50 := NB115_114.out; have hnc50 := NB114_115.out; obtain ⟨hcz51_0, hcz51_1, hfz51_0, hfz51_1⟩ := cz2_ BK115.out; have p116 : 0 ≤ (((rd_T52 l0_1 x39_3).f0) : Int) := od_; have q116 : ((rd_T52 l0_1 x39_3).f0) < (x6_4.length : Int) := od_; obtain ⟨ad116, e116, hx116_0⟩ := Kd.at_int (Kd.R_reads' HO_6.out).2.2 ((rd_T52 l0_1 x39_3).f0) p116 q116; obtain rfl : (⟨go25, 0, none⟩ : Addr) = ad116 := (by injection e116); (try first | simp only [add_plain] at hx116_0 | simp only [add_at] at hx116_0 | simp only [Addr.add, Nat.zero_add] at hx116_0); have hn116_0 : (⟨go25, 0, none⟩ : Addr).block ≠ gb115 := Kd.own_blk (Kd.R_ne HO_6.out BK115.out (by decide)); have hn116_1 : (⟨go25, 0, none⟩ : Addr).block ≠ gb115 := Kd.own_blk (Kd.R_ne HO_6.out BK115.out (by decide)); replace hx116_0 := (cell_far (p := ⟨gb115, 0, none⟩) (ab_ hn116_0) (.int .i64 ((rd_T52 l0_1 x39_3).f0))).trans hx116_0; replace hx116_0 := (cell_far (p := ⟨gb115, 1, none⟩) (ab_ hn116_1) (.int .i64 ((rd_T52 l0_1 x39_3).f1))).trans hx116_0; clear hn116_0; clear hn116_1; replace p116 := eq_true p116; replace q116 := eq_true q116; have p117 : 0 ≤ (((rd_T52 l0_1 x39_3).f1) : Int) := od_; have q117 : ((rd_T52 l0_1 x39_3).f1) < (x6_4.length : Int) := od_; obtain ⟨ad117, e117, hx117_0⟩ := Kd.at_int (Kd.R_reads' HO_6.out).2.2 ((rd_T52 l0_1 x39_3).f1) p117 q117; obtain rfl : (⟨go25, 0, none⟩ : Addr) = ad117 := (by injection e117); (try first | simp only [add_plain] at hx117_0 | simp only [add_at] at hx117_0 | simp only [Addr.add, Nat.zero_add] at hx117_0); have hn117_0 : (⟨go25, 0, none⟩ : Addr).block ≠ gb115 := Kd.own_blk (Kd.R_ne HO_6.out BK115.out (by decide)); have hn117_1 : (⟨go25, 0, none⟩ : Addr).block ≠ gb115 := Kd.own_blk (Kd.R_ne HO_6.out BK115.out (by decide)); replace hx117_0 := (cell_far (p := ⟨gb115, 0, none⟩) (ab_ hn117_0) (.int .i64 ((rd_T52 l0_1 x39_3).f0))).trans hx117_0; replace hx117_0 := (cell_far (p := ⟨gb115, 1, none⟩) (ab_ hn117_1) (.int .i64 ((rd_T52 l0_1 x39_3).f1))).trans hx117_0; clear hn117_0; clear hn117_1; replace p117 := eq_true p117; replace q117 := eq_true q117))
                have n0_ : Aside0 (Kd.R (Kd.int .i64) 2 ((w48.setCell ⟨gb115, 0, none⟩ (.int .i64 ((rd_T52 l0_1 x39_3).f0))).setCell ⟨gb115, 1, none⟩ (.int .i64 ((rd_T52 l0_1 x39_3).f1))) w.heap.size (fun k_ => some k_ ≠ (v108 : Value).ownBlock) (.slice (some ⟨go25, 0, none⟩) x6_4.length co12) x6_4) := ⟨by (with_reducible repeat (first | apply Kd.R_alloc | apply Kd.R_drewN | apply Kd.R_drew)); exact Kd.R_mono (Kd.R_far (p := ⟨gb115, 1, none⟩) (Kd.R_far (p := ⟨gb115, 0, none⟩) (Kd.R_types HO_6.out BK115.out (by decide)) (fun _ hk => hk.2) (.int .i64 ((rd_T52 l0_1 x39_3).f0))) (fun _ hk => hk.2) (.int .i64 ((rd_T52 l0_1 x39_3).f1))) (fun _ hk => hk.1)⟩
                have n1_ : Aside0 (Kd.R (Kd.int .i64) 2 ((w48.setCell ⟨gb115, 0, none⟩ (.int .i64 ((rd_T52 l0_1 x39_3).f0))).setCell ⟨gb115, 1, none⟩ (.int .i64 ((rd_T52 l0_1 x39_3).f1))) w.heap.size (fun k_ => some k_ ≠ (.slice (some ⟨go25, 0, none⟩) x6_4.length co12 : Value).ownBlock) v108 x7_4) := ⟨by (with_reducible repeat (first | apply Kd.R_alloc | apply Kd.R_drewN | apply Kd.R_drew)); exact Kd.R_mono (Kd.R_far (p := ⟨gb115, 1, none⟩) (Kd.R_far (p := ⟨gb115, 0, none⟩) (Kd.R_types HO_7.out BK115.out (by decide)) (fun _ hk => hk.2) (.int .i64 ((rd_T52 l0_1 x39_3).f0))) (fun _ hk => hk.2) (.int .i64 ((rd_T52 l0_1 x39_3).f1))) (fun _ hk => hk.1)⟩
                have n2_ : Aside0 (((w48.setCell ⟨gb115, 0, none⟩ (.int .i64 ((rd_T52 l0_1 x39_3).f0))).setCell ⟨gb115, 1, none⟩ (.int .i64 ((rd_T52 l0_1 x39_3).f1))).heap[gb103]? = some (.cells #[.int .i64 a0_0, .slice (some ad113) l0_1.length c0_1] 26 (0, 0))) := ⟨by (with_reducible repeat (first | refine blk_drewN ?_ _ | refine blk_drew ?_ | refine blk_alloc ?_ _)); refine blk_far ?_ NB103_115.out _; (with_reducible repeat (first | refine blk_drewN ?_ _ | refine blk_drew ?_ | refine blk_alloc ?_ _)); refine blk_far ?_ NB103_115.out _; (with_reducible repeat (first | refine blk_drewN ?_ _ | refine blk_drew ?_ | refine blk_alloc ?_ _)); exact BK103.out⟩
                have n3_ : Aside0 (((w48.setCell ⟨gb115, 0, none⟩ (.int .i64 ((rd_T52 l0_1 x39_3).f0))).setCell ⟨gb115, 1, none⟩ (.int .i64 ((rd_T52 l0_1 x39_3).f1))).heap[gb114]? = some (.cells #[.int .i64 ((rd_T52 l0_1 x39_3).f0), .int .i64 ((rd_T52 l0_1 x39_3).f1), .int .i64 ((rd_T52 l0_1 x39_3).f2)] 52 (0, 0))) := ⟨by (with_reducible repeat (first | refine blk_drewN ?_ _ | refine blk_drew ?_ | refine blk_alloc ?_ _)); refine blk_far ?_ NB114_115.out _; (with_reducible repeat (first | refine blk_drewN ?_ _ | refine blk_drew ?_ | refine blk_alloc ?_ _)); refine blk_far ?_ NB114_115.out _; (with_reducible repeat (first | refine blk_drewN ?_ _ | refine blk_drew ?_ | refine blk_alloc ?_ _)); exact BK114.out⟩
                have n4_ : Aside0 (((w48.setCell ⟨gb115, 0, none⟩ (.int .i64 ((rd_T52 l0_1 x39_3).f0))).setCell ⟨gb115, 1, none⟩ (.int .i64 ((rd_T52 l0_1 x39_3).f1))).heap[gb115]? = some (.cells #[.int .i64 ((rd_T52 l0_1 x39_3).f0), .int .i64 ((rd_T52 l0_1 x39_3).f1)] 78 (0, 0))) := ⟨by (with_reducible repeat (first | refine blk_drewN ?_ _ | refine blk_drew ?_ | refine blk_alloc ?_ _)); refine blk_put (cs := #[.int .i64 ((rd_T52 l0_1 x39_3).f0), .int .i64 0]) ?_ 1 _ rfl; (with_reducible repeat (first | refine blk_drewN ?_ _ | refine blk_drew ?_ | refine blk_alloc ?_ _)); refine blk_put (cs := #[.int .i64 0, .int .i64 0]) ?_ 0 _ rfl; (with_reducible repeat (first | refine blk_drewN ?_ _ | refine blk_drew ?_ | refine blk_alloc ?_ _)); exact BK115.out⟩
                have n5_ : Aside0 (Below w.heap.size w ((w48.setCell ⟨gb115, 0, none⟩ (.int .i64 ((rd_T52 l0_1 x39_3).f0))).setCell ⟨gb115, 1, none⟩ (.int .i64 ((rd_T52 l0_1 x39_3).f1)))) := ⟨bl3_ HB.out GE103.out GE114.out GE115.out⟩
                (try clear HO_6)
                (try clear HO_7)
                (try clear BK103)
                (try clear BK114)
                (try clear BK115)
                (try clear HB)
                generalize ((w48.setCell ⟨gb115, 0, none⟩ (.int .i64 ((rd_T52 l0_1 x39_3).f0))).setCell ⟨gb115, 1, none⟩ (.int .i64 ((rd_T52 l0_1 x39_3).f1))) = w52 at n0_ n1_ n2_ n3_ n4_ n5_ ⊢
                have HO_6 := n0_
                have HO_7 := n1_
                have BK103 := n2_
                have BK114 := n3_
                have BK115 := n4_
                have HB := n5_
                clear n0_ n1_ n2_ n3_ n4_ n5_
                have n0_ := Aside0.mk (Kd.R_drew HO_6.out)
                have n1_ := Aside0.mk (Kd.R_drew HO_7.out)
                have n2_ := Aside0.mk (blk_drew BK103.out)
                have n3_ := Aside0.mk (blk_drew BK114.out)
                have n4_ := Aside0.mk (blk_drew BK115.out)
                have n5_ := Aside0.mk (below_drew1 HB.out)
                clear HO_6
                clear HO_7
                clear BK103
                clear BK114
                clear BK115
                clear HB
                have HO_6 := n0_
                have HO_7 := n1_
                have BK103 := n2_
                have BK114 := n3_
                have BK115 := n4_
                have HB := n5_
                clear n0_ n1_ n2_ n3_ n4_ n5_
                have p118 : 0 ≤ (((rd_T52 l0_1 x39_3).f0) : Int) := od_
                have q118 : ((rd_T52 l0_1 x39_3).f0) < (x6_4.length : Int) := od_
                obtain ⟨ad118, e118, hx118_0⟩ := Kd.at_int (Kd.R_reads' HO_6.out).2.2 ((rd_T52 l0_1 x39_3).f0) p118 q118
                obtain rfl : (⟨go25, 0, none⟩ : Addr) = ad118 := (by injection e118)
                (try first | simp only [add_plain] at hx118_0 | simp only [add_at] at hx118_0 | simp only [Addr.add, Nat.zero_add] at hx118_0)
                replace p118 := eq_true p118
                replace q118 := eq_true q118
                have p45 : 0 ≤ (((rd_T52 l0_1 x39_3).f1) : Int) := od_
                have q45 : (((rd_T52 l0_1 x39_3).f1) : Int) < ((x6_4.length : Int) : Int) := od_
                obtain ⟨hx45_0, hf45_0⟩ := Kd.R_celln 0 HO_6.out (((rd_T52 l0_1 x39_3).f1) : Int) p45 q45
                replace p45 := eq_true p45
                replace q45 := eq_true q45
                have HP54 := Kd.R_putn HO_6.out (((rd_T52 l0_1 x39_3).f1) : Int) (wrap64 ((rd x6_4 ((rd_T52 l0_1 x39_3).f0)) + ((rd_T52 l0_1 x39_3).f2)))
                rw [← Ny119.out] at HP54
                have HQ54 := Aside0.mk HP54
                clear HP54
                have p47 : 0 ≤ (((rd_T52 l0_1 x39_3).f1) : Int) := od_
                have q47 : (((rd_T52 l0_1 x39_3).f1) : Int) < ((x7_4.length : Int) : Int) := od_
                obtain ⟨go47, co47, eo47, gb47, gl47, cl47, HG47⟩ := Kd.R_form HO_7.out (by omega)
                (first | cases eo47 | (injection eo47 with ea_ en_ ec_; (first | subst ea_ | (injection ea_ with ea_; subst ea_)); subst ec_; clear en_))
                have GB47 := Aside0.mk gb47
                have GG47 := Aside0.mk HG47
                clear gb47 gl47 HG47
                obtain ⟨hx47_0, hf47_0⟩ := Kd.R_celln 0 (Kd.R_far (p := ⟨go25, (((rd_T52 l0_1 x39_3).f1) : Int).toNat, none⟩) (Kd.R_mono HO_7.out (fun k_ hk => (⟨hk, fun e_ => hk (by rw [e_]; rfl)⟩ : _ ∧ k_ ≠ go25))) (fun _ hk => hk.2) (.int .i64 (wrap64 ((rd x6_4 ((rd_T52 l0_1 x39_3).f0)) + ((rd_T52 l0_1 x39_3).f2))))) (((rd_T52 l0_1 x39_3).f1) : Int) p47 q47
                replace p47 := eq_true p47
                replace q47 := eq_true q47
                have HP55 := Kd.R_putn (Kd.R_far (p := ⟨go25, (((rd_T52 l0_1 x39_3).f1) : Int).toNat, none⟩) (Kd.R_mono HO_7.out (fun k_ hk => (⟨hk, fun e_ => hk (by rw [e_]; rfl)⟩ : _ ∧ k_ ≠ go25))) (fun _ hk => hk.2) (.int .i64 (wrap64 ((rd x6_4 ((rd_T52 l0_1 x39_3).f0)) + ((rd_T52 l0_1 x39_3).f2))))) (((rd_T52 l0_1 x39_3).f1) : Int) ((rd_T52 l0_1 x39_3).f0)
                rw [← Ny120.out] at HP55
                have HQ55 := Aside0.mk HP55
                clear HP55
                have hrn115_go25 : gb115 ≠ go25 := Ne.symm (Kd.own_blk (Kd.R_ne HO_6.out BK115.out (by decide)))
                have hrn114_go25 : gb114 ≠ go25 := Ne.symm (Kd.own_blk (Kd.R_ne HO_6.out BK114.out (by decide)))
                have hrn115_go47 : gb115 ≠ go47 := Ne.symm (Kd.own_blk (Kd.R_ne HO_7.out BK115.out (by decide)))
                have hrn114_go47 : gb114 ≠ go47 := Ne.symm (Kd.own_blk (Kd.R_ne HO_7.out BK114.out (by decide)))
                refine start_ (n := 21) (S := fun w' => w'.cell? ⟨gb115, 0, none⟩ = some (.int .i64 ((rd_T52 l0_1 x39_3).f0)) ∧ w'.cell? ⟨gb115, 1, none⟩ = some (.int .i64 ((rd_T52 l0_1 x39_3).f1)) ∧ w'.cell? ⟨gb114, 0, none⟩ = some (.int .i64 ((rd_T52 l0_1 x39_3).f0)) ∧ w'.cell? ⟨gb114, 1, none⟩ = some (.int .i64 ((rd_T52 l0_1 x39_3).f1)) ∧ w'.cell? ⟨gb114, 2, none⟩ = some (.int .i64 ((rd_T52 l0_1 x39_3).f2))) (ds := []) (nb_ 21 0) (by kernel_rfl) rfl rfl ⟨(blk_cell BK115.out 0).trans rfl, (blk_cell BK115.out 1).trans rfl, (blk_cell BK114.out 0).trans rfl, (blk_cell BK114.out 1).trans rfl, (blk_cell BK114.out 2).trans rfl⟩ (fun hHeld => ?_); refine with_tabW impl_Tree_far.tab18 impl_Tree_far.bits18 (fun HT_ HW_ => ?_)
                generalize w52.drew = w53 at HO_6 HO_7 BK103 BK114 BK115 HB GG47 HQ54 HQ55 hf45_0 hf47_0 hx118_0 hx45_0 hx47_0 hHeld ⊢
                refine puz_ 0 (some 71) (nb_ 21 1) rfl rfl (any_of HT_.out (by kernel_rfl)) ?_
                refine puz_ 1 (some 72) (nb_ 21 3) rfl rfl (any_of HT_.out (by kernel_rfl)) ?_
                refine puz_ 3 (some 74) (nb_ 21 11) rfl rfl (any_of HT_.out (by kernel_rfl)) ?_
                refine puz_ 4 (some 75) (nb_ 21 27) rfl rfl (any_of HT_.out (by kernel_rfl)) ?_
                refine puz_ 6 (some 77) (nb_ 21 91) rfl rfl (any_of HT_.out (by kernel_rfl)) ?_
                refine puz_ 7 (some 78) (nb_ 21 219) rfl rfl (any_of HT_.out (by kernel_rfl)) ?_
                refine puz_ 11 (some 82) (nb_ 21 2267) rfl rfl (any_of HT_.out (by kernel_rfl)) ?_
                refine puz_ 14 (some 85) (nb_ 21 18651) rfl rfl (any_of HT_.out (by kernel_rfl)) ?_
                refine tkz_ 2 (some 73) (nb_ 21 18655) rfl rfl (take_ofW HT_.out HW_.out (by kernel_rfl)) hHeld ?_
                refine tkz_ 5 (some 76) (nb_ 21 18687) rfl rfl (take_ofW HT_.out HW_.out (by kernel_rfl)) hHeld ?_
                refine tkz_ 8 (some 79) (nb_ 21 18943) rfl rfl (take_ofW HT_.out HW_.out (by kernel_rfl)) hHeld ?_
                refine puz_ 9 (some 80) (nb_ 21 19455) rfl rfl (any_of HT_.out (by kernel_rfl)) ?_
                refine tkz_ 12 (some 83) (nb_ 21 23551) rfl rfl (take_ofW HT_.out HW_.out (by kernel_rfl)) hHeld ?_
                refine tkz_ 15 (some 86) (nb_ 21 56319) rfl rfl (take_ofW HT_.out HW_.out (by kernel_rfl)) hHeld ?_
                refine one_ (i := 10) (N := some 81) (nb_ 21 57343) rfl rfl (one_of HT_.out (by kernel_rfl)) (by decide) (fun K hK => ?_)
                refine value_ (w1 := ?_) (v := ?_) (by rfl) rfl ?_ ?_
                rotate_left 2
                ·go_simp
                 constructor
                 ·rfl
                 ·rfl
                refine hK.out _ _ ⟨hHeld.1, hHeld.2.1, hHeld.2.2.1, hHeld.2.2.2.1, hHeld.2.2.2.2⟩ (fun hHeld => ?_)
                clear hK K
                refine norm_ (a' := ?_) ?_ ?_
                rotate_left
                ·show Act.put _ (some 81) _ = _
                 simp only [Act.put, List.setIfInBounds_toArray, List.set_cons_zero, List.set_cons_succ, i64_w, i32_w]
                 rfl
                refine puz_ 13 (some 84) (nb_ 21 65535) rfl rfl (any_of HT_.out (by kernel_rfl)) ?_
                refine puz_ 16 (some 87) (nb_ 21 131071) rfl rfl (any_of HT_.out (by kernel_rfl)) ?_
                refine one_ (i := 17) (N := none) (nb_ 21 262143) rfl rfl (one_of HT_.out (by kernel_rfl)) (by decide) (fun K hK => ?_)
                refine skip_ (w1 := ?_) (by rfl) rfl ?_ ?_
                rotate_left
                ·go_simp
                 rfl
                refine hK.out _ _ ⟨((cell_far (p := ⟨go25, _, none⟩) hrn115_go25 _).trans (hHeld.1)), ((cell_far (p := ⟨go25, _, none⟩) hrn115_go25 _).trans (hHeld.2.1)), ((cell_far (p := ⟨go25, _, none⟩) hrn114_go25 _).trans (hHeld.2.2.1)), ((cell_far (p := ⟨go25, _, none⟩) hrn114_go25 _).trans (hHeld.2.2.2.1)), ((cell_far (p := ⟨go25, _, none⟩) hrn114_go25 _).trans (hHeld.2.2.2.2))⟩ (fun hHeld => ?_)
                clear hK K
                refine puz_ 18 (some 88) (nb_ 21 524287) rfl rfl (any_of HT_.out (by kernel_rfl)) ?_
                refine one_ (i := 19) (N := none) (nb_ 21 1048575) rfl rfl (one_of HT_.out (by kernel_rfl)) (by decide) (fun K hK => ?_)
                refine skip_ (w1 := ?_) (by rfl) rfl ?_ ?_
                rotate_left
                ·go_simp
                 rfl
                refine hK.out _ _ ⟨((cell_far (p := ⟨go47, _, none⟩) hrn115_go47 _).trans (hHeld.1)), ((cell_far (p := ⟨go47, _, none⟩) hrn115_go47 _).trans (hHeld.2.1)), ((cell_far (p := ⟨go47, _, none⟩) hrn114_go47 _).trans (hHeld.2.2.1)), ((cell_far (p := ⟨go47, _, none⟩) hrn114_go47 _).trans (hHeld.2.2.2.1)), ((cell_far (p := ⟨go47, _, none⟩) hrn114_go47 _).trans (hHeld.2.2.2.2))⟩ (fun hHeld => ?_)
                clear hK K
                refine puz_ 20 (some 9) (nb_ 21 2097151) rfl rfl (any_of HT_.out (by kernel_rfl)) ?_
                refine done_ (done_of HT_.out (by kernel_rfl)) ?_
                try go_wp2
                (try simp only [← hl6_4])
                go_roundg k4
                case measure => have := HK1.out; have := HK2.out; have := HK3.out; have := HK4.out; omega
                case rel => exact ⟨(y119), (y120), (true), (wrap64 (x54_4 + 1)), rs_, rs_, H', ⟨by have := HK1.out; have := HK2.out; have := HK3.out; have := HK4.out; omega⟩, ⟨by (try simp only [hl6_1]); (try simp only [hl6_2]); (try simp only [hl6_3]); (try simp only [hl6_4]); (with_reducible repeat (first | apply Kd.R_alloc | apply Kd.R_drewN | apply Kd.R_drew)); exact Kd.R_mono (Kd.R_far (p := ⟨go47, (((rd_T52 l0_1 x39_3).f1) : Int).toNat, none⟩) (Kd.R_mono HQ54.out (fun k_ hk => (⟨hk, fun e_ => hk (by rw [e_]; rfl)⟩ : _ ∧ k_ ≠ go47))) (fun _ hk => hk.2) (.int .i64 ((rd_T52 l0_1 x39_3).f0))) (fun _ hk => hk.1)⟩, ⟨by (try simp only [hl6_1]); (try simp only [hl6_2]); (try simp only [hl6_3]); (try simp only [hl6_4]); (with_reducible repeat (first | apply Kd.R_alloc | apply Kd.R_drewN | apply Kd.R_drew)); exact Kd.R_mono HQ55.out (fun _ hk => hk.1)⟩, ⟨by (try simp only [hl6_1]); (try simp only [hl6_2]); (try simp only [hl6_3]); (try simp only [hl6_4]); (with_reducible repeat (first | refine blk_drewN ?_ _ | refine blk_drew ?_ | refine blk_alloc ?_ _)); refine blk_far ?_ (by have h_ := Kd.R_ne HO_7.out BK103.out (by decide); intro e_; exact h_ (by rw [e_]; rfl)) _; (with_reducible repeat (first | refine blk_drewN ?_ _ | refine blk_drew ?_ | refine blk_alloc ?_ _)); refine blk_far ?_ (by have h_ := Kd.R_ne HO_6.out BK103.out (by decide); intro e_; exact h_ (by rw [e_]; rfl)) _; (with_reducible repeat (first | refine blk_drewN ?_ _ | refine blk_drew ?_ | refine blk_alloc ?_ _)); exact BK103.out⟩, ⟨by (try simp only [hl6_1]); (try simp only [hl6_2]); (try simp only [hl6_3]); (try simp only [hl6_4]); (with_reducible repeat (first | refine blk_drewN ?_ _ | refine blk_drew ?_ | refine blk_alloc ?_ _)); refine blk_far ?_ (by have h_ := Kd.R_ne HO_7.out BK114.out (by decide); intro e_; exact h_ (by rw [e_]; rfl)) _; (with_reducible repeat (first | refine blk_drewN ?_ _ | refine blk_drew ?_ | refine blk_alloc ?_ _)); refine blk_far ?_ (by have h_ := Kd.R_ne HO_6.out BK114.out (by decide); intro e_; exact h_ (by rw [e_]; rfl)) _; (with_reducible repeat (first | refine blk_drewN ?_ _ | refine blk_drew ?_ | refine blk_alloc ?_ _)); exact BK114.out⟩, ⟨by repeat (first | (with_reducible first | exact HB.out | apply below_alloc | apply pw_below_drewN | apply below_drew1 | refine below_set ?_ GB25.out | refine below_set ?_ GB47.out | refine below_set ?_ GE103.out | refine below_set ?_ GE114.out | refine below_set ?_ GE115.out) | exact HB.out)⟩⟩
               ·rw [if_neg c44] at H
                have c44b0 := decide_eq_false c44
                clear c44
                have H' := Aside0.mk H
                clear H
                have hix38 : ∀ W_ : World, (Instr.index 79 (.agg #[.int .i64 ((rd_T52 l0_1 x39_3).f0), .int .i64 ((rd_T52 l0_1 x39_3).f1), .int .i64 ((rd_T52 l0_1 x39_3).f1), .int .i64 ((rd_T52 l0_1 x39_3).f0)]) (.int .i64 x54_4)).run Tryd.prog W_ = .ok (.agg #[.int .i64 ((rd_T52 l0_1 x39_3).f0), .int .i64 ((rd_T52 l0_1 x39_3).f1)]) W_ := fun W_ => by have e_ : (x54_4 : Int) = 0 := (by simpa using (show (x54_4 == 0) = true from (by assumption))); rw [e_]; rfl
                go_wp2_with (first | ((with_reducible refine gate_dst (N := 13) rfl ?_); refine box_event ?hg (N := 13) ?hd (cs := #[.int .i64 0, .int .i64 0]) (t := 78) ?hr ?_; (case hd => rfl); (case hg => rfl); (case hr => first | (go_simp; done) | (go_simp; rfl)); intro gb115 hg w56 hbox hb; have n0_ := Aside0.mk (Kd.R_below (ra_ HO_6.out) hb); have n1_ := Aside0.mk (Kd.R_below (ra_ HO_7.out) hb); have n2_ := Aside0.mk (blk_below (g := gb103) (o := .cells #[.int .i64 a0_0, .slice (some ad113) l0_1.length c0_1] 26 (0, 0)) (bk_ BK103.out) hb); have n3_ := Aside0.mk (blk_below (g := gb114) (o := .cells #[.int .i64 ((rd_T52 l0_1 x39_3).f0), .int .i64 ((rd_T52 l0_1 x39_3).f1), .int .i64 ((rd_T52 l0_1 x39_3).f2)] 52 (0, 0)) (bk_ BK114.out) hb); have n4_ := Aside0.mk (below_step (bl2_ HB.out GE103.out GE114.out) hb); have n5_ := Aside0.mk (hbox); have n6_ := Aside0.mk ((by rw [hg]; exact (below_size (bl2_ HB.out GE103.out GE114.out)) : w.heap.size ≤ gb115)); have n7_ := Aside0.mk ((by rw [hg]; exact (below_size (bl2_ HB.out GE103.out GE114.out)) : w.heap.size ≤ gb115)); have n8_ := Aside0.mk ((by rw [hg]; exact Nat.ne_of_lt (blk_lt (bk_ BK103.out)) : gb103 ≠ gb115)); have n9_ := Aside0.mk ((by rw [hg]; exact Nat.ne_of_gt (blk_lt (bk_ BK103.out)) : gb115 ≠ gb103)); have n10_ := Aside0.mk ((by rw [hg]; exact Nat.ne_of_lt (blk_lt (bk_ BK114.out)) : gb114 ≠ gb115)); have n11_ := Aside0.mk ((by rw [hg]; exact Nat.ne_of_gt (blk_lt (bk_ BK114.out)) : gb115 ≠ gb114)); clear HO_6; clear HO_7; clear BK103; clear BK114; clear HB; have HO_6 := n0_; have HO_7 := n1_; have BK103 := n2_; have BK114 := n3_; have HB := n4_; have BK115 := n5_; have GW115 := n6_; have GE115 := n7_; have NB103_115 := n8_; have NB115_103 := n9_; have NB114_115 := n10_; have NB115_114 := n11_; clear n0_ n1_ n2_ n3_ n4_ n5_ n6_ n7_ n8_ n9_ n10_ n11_; clear hb hbox hg; have hnb57 := NB115_103.out; have hnc57 := NB103_115.out; have hnb58 := NB115_114.out; have hnc58 := NB114_115.out; obtain ⟨hcz59_0, hcz59_1, hfz59_0, hfz59_1⟩ := cz2_ BK115.out; have p116 : 0 ≤ (((rd_T52 l0_1 x39_3).f0) : Int) := od_; have q116 : ((rd_T52 l0_1 x39_3).f0) < (x6_4.length : Int) := od_; obtain ⟨ad116, e116, hx116_0⟩ := Kd.at_int (Kd.R_reads' HO_6.out).2.2 ((rd_T52 l0_1 x39_3).f0) p116 q116; obtain rfl : (⟨go25, 0, none⟩ : Addr) = ad116 := (by injection e116); (try first | simp only [add_plain] at hx116_0 | simp only [add_at] at hx116_0 | simp only [Addr.add, Nat.zero_add] at hx116_0); have hn116_0 : (⟨go25, 0, none⟩ : Addr).block ≠ gb115 := Kd.own_blk (Kd.R_ne HO_6.out BK115.out (by decide)); have hn116_1 : (⟨go25, 0, none⟩ : Addr).block ≠ gb115 := Kd.own_blk (Kd.R_ne HO_6.out BK115.out (by decide)); replace hx116_0 := (cell_far (p := ⟨gb115, 0, none⟩) (ab_ hn116_0) (.int .i64 ((rd_T52 l0_1 x39_3).f0))).trans hx116_0; replace hx116_0 := (cell_far (p := ⟨gb115, 1, none⟩) (ab_ hn116_1) (.int .i64 ((rd_T52 l0_1 x39_3).f1))).trans hx116_0; clear hn116_0; clear hn116_1; replace p116 := eq_true p116; replace q116 := eq_true q116; have p117 : 0 ≤ (((rd_T52 l0_1 x39_3).f1) : Int) := od_; have q117 : ((rd_T52 l0_1 x39_3).f1) < (x6_4.length : Int) := od_; obtain ⟨ad117, e117, hx117_0⟩ := Kd.at_int (Kd.R_reads' HO_6.out).2.2 ((rd_T52 l0_1 x39_3).f1) p117 q117; obtain rfl : (⟨go25, 0, none⟩ : Addr) = ad117 := (by injection e117); (try first | simp only [add_plain] at hx117_0 | simp only [add_at] at hx117_0 | simp only [Addr.add, Nat.zero_add] at hx117_0); have hn117_0 : (⟨go25, 0, none⟩ : Addr).block ≠ gb115 := Kd.own_blk (Kd.R_ne HO_6.out BK115.out (by decide)); have hn117_1 : (⟨go25, 0, none⟩ : Addr).block ≠ gb115 := Kd.own_blk (Kd.R_ne HO_6.out BK115.out (by decide)); replace hx117_0 := (cell_far (p := ⟨gb115, 0, none⟩) (ab_ hn117_0) (.int .i64 ((rd_T52 l0_1 x39_3).f0))).trans hx117_0; replace hx117_0 := (cell_far (p := ⟨gb115, 1, none⟩) (ab_ hn117_1) (.int .i64 ((rd_T52 l0_1 x39_3).f1))).trans hx117_0; clear hn117_0; clear hn117_1; replace p117 := eq_true p117; replace q117 := eq_true q117))
                (try simp only [← hl6_4])
                go_roundg k4
                case measure => have := HK1.out; have := HK2.out; have := HK3.out; have := HK4.out; omega
                case rel => exact ⟨(x6_4), (x7_4), (x9_4), (wrap64 (x54_4 + 1)), rs_, rs_, H', ⟨by have := HK1.out; have := HK2.out; have := HK3.out; have := HK4.out; omega⟩, ⟨by (try simp only [hl6_1]); (try simp only [hl6_2]); (try simp only [hl6_3]); (try simp only [hl6_4]); (with_reducible repeat (first | apply Kd.R_alloc | apply Kd.R_drewN | apply Kd.R_drew)); exact Kd.R_mono (Kd.R_far (p := ⟨gb115, 1, none⟩) (Kd.R_far (p := ⟨gb115, 0, none⟩) (Kd.R_types HO_6.out BK115.out (by decide)) (fun _ hk => hk.2) (.int .i64 ((rd_T52 l0_1 x39_3).f0))) (fun _ hk => hk.2) (.int .i64 ((rd_T52 l0_1 x39_3).f1))) (fun _ hk => hk.1)⟩, ⟨by (try simp only [hl6_1]); (try simp only [hl6_2]); (try simp only [hl6_3]); (try simp only [hl6_4]); (with_reducible repeat (first | apply Kd.R_alloc | apply Kd.R_drewN | apply Kd.R_drew)); exact Kd.R_mono (Kd.R_far (p := ⟨gb115, 1, none⟩) (Kd.R_far (p := ⟨gb115, 0, none⟩) (Kd.R_types HO_7.out BK115.out (by decide)) (fun _ hk => hk.2) (.int .i64 ((rd_T52 l0_1 x39_3).f0))) (fun _ hk => hk.2) (.int .i64 ((rd_T52 l0_1 x39_3).f1))) (fun _ hk => hk.1)⟩, ⟨by (try simp only [hl6_1]); (try simp only [hl6_2]); (try simp only [hl6_3]); (try simp only [hl6_4]); (with_reducible repeat (first | refine blk_drewN ?_ _ | refine blk_drew ?_ | refine blk_alloc ?_ _)); refine blk_far ?_ NB103_115.out _; (with_reducible repeat (first | refine blk_drewN ?_ _ | refine blk_drew ?_ | refine blk_alloc ?_ _)); refine blk_far ?_ NB103_115.out _; (with_reducible repeat (first | refine blk_drewN ?_ _ | refine blk_drew ?_ | refine blk_alloc ?_ _)); exact BK103.out⟩, ⟨by (try simp only [hl6_1]); (try simp only [hl6_2]); (try simp only [hl6_3]); (try simp only [hl6_4]); (with_reducible repeat (first | refine blk_drewN ?_ _ | refine blk_drew ?_ | refine blk_alloc ?_ _)); refine blk_far ?_ NB114_115.out _; (with_reducible repeat (first | refine blk_drewN ?_ _ | refine blk_drew ?_ | refine blk_alloc ?_ _)); refine blk_far ?_ NB114_115.out _; (with_reducible repeat (first | refine blk_drewN ?_ _ | refine blk_drew ?_ | refine blk_alloc ?_ _)); exact BK114.out⟩, ⟨bl3_ HB.out GE103.out GE114.out GE115.out⟩⟩
              ·rw [if_neg c41] at H
               have c41b0 : decide (0 ≤ (rd x6_4 ((rd_T52 l0_1 x39_3).f0))) = false := decide_eq_false c41
               clear c41
               have H' := Aside0.mk H
               clear H
               have hix38 : ∀ W_ : World, (Instr.index 79 (.agg #[.int .i64 ((rd_T52 l0_1 x39_3).f0), .int .i64 ((rd_T52 l0_1 x39_3).f1), .int .i64 ((rd_T52 l0_1 x39_3).f1), .int .i64 ((rd_T52 l0_1 x39_3).f0)]) (.int .i64 x54_4)).run Tryd.prog W_ = .ok (.agg #[.int .i64 ((rd_T52 l0_1 x39_3).f0), .int .i64 ((rd_T52 l0_1 x39_3).f1)]) W_ := fun W_ => by have e_ : (x54_4 : Int) = 0 := (by simpa using (show (x54_4 == 0) = true from (by assumption))); rw [e_]; rfl
               go_wp2_with (first | ((with_reducible refine gate_dst (N := 13) rfl ?_); refine box_event ?hg (N := 13) ?hd (cs := #[.int .i64 0, .int .i64 0]) (t := 78) ?hr ?_; (case hd => rfl); (case hg => rfl); (case hr => first | (go_simp; done) | (go_simp; rfl)); intro gb115 hg w60 hbox hb; have n0_ := Aside0.mk (Kd.R_below (ra_ HO_6.out) hb); have n1_ := Aside0.mk (Kd.R_below (ra_ HO_7.out) hb); have n2_ := Aside0.mk (blk_below (g := gb103) (o := .cells #[.int .i64 a0_0, .slice (some ad113) l0_1.length c0_1] 26 (0, 0)) (bk_ BK103.out) hb); have n3_ := Aside0.mk (blk_below (g := gb114) (o := .cells #[.int .i64 ((rd_T52 l0_1 x39_3).f0), .int .i64 ((rd_T52 l0_1 x39_3).f1), .int .i64 ((rd_T52 l0_1 x39_3).f2)] 52 (0, 0)) (bk_ BK114.out) hb); have n4_ := Aside0.mk (below_step (bl2_ HB.out GE103.out GE114.out) hb); have n5_ := Aside0.mk (hbox); have n6_ := Aside0.mk ((by rw [hg]; exact (below_size (bl2_ HB.out GE103.out GE114.out)) : w.heap.size ≤ gb115)); have n7_ := Aside0.mk ((by rw [hg]; exact (below_size (bl2_ HB.out GE103.out GE114.out)) : w.heap.size ≤ gb115)); have n8_ := Aside0.mk ((by rw [hg]; exact Nat.ne_of_lt (blk_lt (bk_ BK103.out)) : gb103 ≠ gb115)); have n9_ := Aside0.mk ((by rw [hg]; exact Nat.ne_of_gt (blk_lt (bk_ BK103.out)) : gb115 ≠ gb103)); have n10_ := Aside0.mk ((by rw [hg]; exact Nat.ne_of_lt (blk_lt (bk_ BK114.out)) : gb114 ≠ gb115)); have n11_ := Aside0.mk ((by rw [hg]; exact Nat.ne_of_gt (blk_lt (bk_ BK114.out)) : gb115 ≠ gb114)); clear HO_6; clear HO_7; clear BK103; clear BK114; clear HB; have HO_6 := n0_; have HO_7 := n1_; have BK103 := n2_; have BK114 := n3_; have HB := n4_; have BK115 := n5_; have GW115 := n6_; have GE115 := n7_; have NB103_115 := n8_; have NB115_103 := n9_; have NB114_115 := n10_; have NB115_114 := n11_; clear n0_ n1_ n2_ n3_ n4_ n5_ n6_ n7_ n8_ n9_ n10_ n11_; clear hb hbox hg; have hnb61 := NB115_103.out; have hnc61 := NB103_115.out; have hnb62 := NB115_114.out; have hnc62 := NB114_115.out; obtain ⟨hcz63_0, hcz63_1, hfz63_0, hfz63_1⟩ := cz2_ BK115.out; have p116 : 0 ≤ (((rd_T52 l0_1 x39_3).f0) : Int) := od_; have q116 : ((rd_T52 l0_1 x39_3).f0) < (x6_4.length : Int) := od_; obtain ⟨ad116, e116, hx116_0⟩ := Kd.at_int (Kd.R_reads' HO_6.out).2.2 ((rd_T52 l0_1 x39_3).f0) p116 q116; obtain rfl : (⟨go25, 0, none⟩ : Addr) = ad116 := (by injection e116); (try first | simp only [add_plain] at hx116_0 | simp only [add_at] at hx116_0 | simp only [Addr.add, Nat.zero_add] at hx116_0); have hn116_0 : (⟨go25, 0, none⟩ : Addr).block ≠ gb115 := Kd.own_blk (Kd.R_ne HO_6.out BK115.out (by decide)); have hn116_1 : (⟨go25, 0, none⟩ : Addr).block ≠ gb115 := Kd.own_blk (Kd.R_ne HO_6.out BK115.out (by decide)); replace hx116_0 := (cell_far (p := ⟨gb115, 0, none⟩) (ab_ hn116_0) (.int .i64 ((rd_T52 l0_1 x39_3).f0))).trans hx116_0; replace hx116_0 := (cell_far (p := ⟨gb115, 1, none⟩) (ab_ hn116_1) (.int .i64 ((rd_T52 l0_1 x39_3).f1))).trans hx116_0; clear hn116_0; clear hn116_1; replace p116 := eq_true p116; replace q116 := eq_true q116))
               (try simp only [← hl6_4])
               go_roundg k4
               case measure => have := HK1.out; have := HK2.out; have := HK3.out; have := HK4.out; omega
               case rel => exact ⟨(x6_4), (x7_4), (x9_4), (wrap64 (x54_4 + 1)), rs_, rs_, H', ⟨by have := HK1.out; have := HK2.out; have := HK3.out; have := HK4.out; omega⟩, ⟨by (try simp only [hl6_1]); (try simp only [hl6_2]); (try simp only [hl6_3]); (try simp only [hl6_4]); (with_reducible repeat (first | apply Kd.R_alloc | apply Kd.R_drewN | apply Kd.R_drew)); exact Kd.R_mono (Kd.R_far (p := ⟨gb115, 1, none⟩) (Kd.R_far (p := ⟨gb115, 0, none⟩) (Kd.R_types HO_6.out BK115.out (by decide)) (fun _ hk => hk.2) (.int .i64 ((rd_T52 l0_1 x39_3).f0))) (fun _ hk => hk.2) (.int .i64 ((rd_T52 l0_1 x39_3).f1))) (fun _ hk => hk.1)⟩, ⟨by (try simp only [hl6_1]); (try simp only [hl6_2]); (try simp only [hl6_3]); (try simp only [hl6_4]); (with_reducible repeat (first | apply Kd.R_alloc | apply Kd.R_drewN | apply Kd.R_drew)); exact Kd.R_mono (Kd.R_far (p := ⟨gb115, 1, none⟩) (Kd.R_far (p := ⟨gb115, 0, none⟩) (Kd.R_types HO_7.out BK115.out (by decide)) (fun _ hk => hk.2) (.int .i64 ((rd_T52 l0_1 x39_3).f0))) (fun _ hk => hk.2) (.int .i64 ((rd_T52 l0_1 x39_3).f1))) (fun _ hk => hk.1)⟩, ⟨by (try simp only [hl6_1]); (try simp only [hl6_2]); (try simp only [hl6_3]); (try simp only [hl6_4]); (with_reducible repeat (first | refine blk_drewN ?_ _ | refine blk_drew ?_ | refine blk_alloc ?_ _)); refine blk_far ?_ NB103_115.out _; (with_reducible repeat (first | refine blk_drewN ?_ _ | refine blk_drew ?_ | refine blk_alloc ?_ _)); refine blk_far ?_ NB103_115.out _; (with_reducible repeat (first | refine blk_drewN ?_ _ | refine blk_drew ?_ | refine blk_alloc ?_ _)); exact BK103.out⟩, ⟨by (try simp only [hl6_1]); (try simp only [hl6_2]); (try simp only [hl6_3]); (try simp only [hl6_4]); (with_reducible repeat (first | refine blk_drewN ?_ _ | refine blk_drew ?_ | refine blk_alloc ?_ _)); refine blk_far ?_ NB114_115.out _; (with_reducible repeat (first | refine blk_drewN ?_ _ | refine blk_drew ?_ | refine blk_alloc ?_ _)); refine blk_far ?_ NB114_115.out _; (with_reducible repeat (first | refine blk_drewN ?_ _ | refine blk_drew ?_ | refine blk_alloc ?_ _)); exact BK114.out⟩, ⟨bl3_ HB.out GE103.out GE114.out GE115.out⟩⟩
             ·rw [if_neg c37] at H
              have c37b0 : (x54_4 == 0) = false := beq_eq_false_iff_ne.mpr c37
              have c37b1 : (x54_4 != 0) = true := bne_iff_ne.mpr c37
              by_cases c64 : x54_4 = 1
              rotate_left
              ·exact nope_ c64 H
              rw [if_pos c64] at H
              have c64b0 : (x54_4 == 1) = true := beq_iff_eq.mpr c64
              have c64b1 : (x54_4 != 1) = false := bne_eq_false_iff_eq.mpr c64
              clear c64
              by_cases c66 : 0 ≤ ((rd_T52 l0_1 x39_3).f1)
              rotate_left
              ·exact nope_ c66 H
              rw [if_pos c66] at H
              have c66b0 := decide_eq_true c66
              clear c66
              by_cases c67 : ((rd_T52 l0_1 x39_3).f1) < (x6_4.length : Int)
              rotate_left
              ·exact nope_ c67 H
              rw [if_pos c67] at H
              have c67b0 := decide_eq_true c67
              clear c67
              by_cases c68 : (rd x6_4 ((rd_T52 l0_1 x39_3).f1)) ≥ 0
              ·rw [if_pos c68] at H
               have c68b0 : decide (0 ≤ (rd x6_4 ((rd_T52 l0_1 x39_3).f1))) = true := decide_eq_true c68
               clear c68
               by_cases c69 : 0 ≤ ((rd_T52 l0_1 x39_3).f0)
               rotate_left
               ·exact nope_ c69 H
               rw [if_pos c69] at H
               have c69b0 := decide_eq_true c69
               clear c69
               by_cases c70 : ((rd_T52 l0_1 x39_3).f0) < (x6_4.length : Int)
               rotate_left
               ·exact nope_ c70 H
               rw [if_pos c70] at H
               have c70b0 := decide_eq_true c70
               clear c70
               by_cases c71 : (rd x6_4 ((rd_T52 l0_1 x39_3).f0)) < 0
               ·rw [if_pos c71] at H
                have c71b0 := decide_eq_true c71
                clear c71
                obtain ⟨y125, hy125⟩ : ∃ y_ : List Int, y_ = (x6_4.set (((rd_T52 l0_1 x39_3).f0) : Int).toNat (wrap64 ((rd x6_4 ((rd_T52 l0_1 x39_3).f1)) + ((rd_T52 l0_1 x39_3).f2)))) := ⟨_, rfl⟩
                replace H : (if ((rd_T52 l0_1 x39_3).f0) < (x7_4.length : Int) then (impl_Tree_far.l3 k4 y125 (x7_4.set (((rd_T52 l0_1 x39_3).f0) : Int).toNat ((rd_T52 l0_1 x39_3).f1)) true l0_1 (l0_1.length : Int) x39_3 (wrap64 (x54_4 + 1)) a0_0 l0_1 ((rd_T52 l0_1 x39_3).f0) ((rd_T52 l0_1 x39_3).f1) ((rd_T52 l0_1 x39_3).f2) ((rd_T52 l0_1 x39_3).f1) ((rd_T52 l0_1 x39_3).f0) ((rd_T52 l0_1 x39_3).f0) ((rd_T52 l0_1 x39_3).f1) ((rd_T52 l0_1 x39_3).f1) ((rd_T52 l0_1 x39_3).f0)) else (none)) = some (r1, r2) := yh_ H hy125
                have Ny125 := Aside0.mk hy125
                clear hy125
                by_cases c73 : ((rd_T52 l0_1 x39_3).f0) < (x7_4.length : Int)
                rotate_left
                ·exact nope_ c73 H
                rw [if_pos c73] at H
                have c73b0 := decide_eq_true c73
                clear c73
                obtain ⟨y126, hy126⟩ : ∃ y_ : List Int, y_ = (x7_4.set (((rd_T52 l0_1 x39_3).f0) : Int).toNat ((rd_T52 l0_1 x39_3).f1)) := ⟨_, rfl⟩
                replace H : (impl_Tree_far.l3 k4 y125 y126 true l0_1 (l0_1.length : Int) x39_3 (wrap64 (x54_4 + 1)) a0_0 l0_1 ((rd_T52 l0_1 x39_3).f0) ((rd_T52 l0_1 x39_3).f1) ((rd_T52 l0_1 x39_3).f2) ((rd_T52 l0_1 x39_3).f1) ((rd_T52 l0_1 x39_3).f0) ((rd_T52 l0_1 x39_3).f0) ((rd_T52 l0_1 x39_3).f1) ((rd_T52 l0_1 x39_3).f1) ((rd_T52 l0_1 x39_3).f0)) = some (r1, r2) := yh_ H hy126
                have Ny126 := Aside0.mk hy126
                clear hy126
                have H' := Aside0.mk H
                clear H
                have hix65 : ∀ W_ : World, (Instr.index 79 (.agg #[.int .i64 ((rd_T52 l0_1 x39_3).f0), .int .i64 ((rd_T52 l0_1 x39_3).f1), .int .i64 ((rd_T52 l0_1 x39_3).f1), .int .i64 ((rd_T52 l0_1 x39_3).f0)]) (.int .i64 x54_4)).run Tryd.prog W_ = .ok (.agg #[.int .i64 ((rd_T52 l0_1 x39_3).f1), .int .i64 ((rd_T52 l0_1 x39_3).f0)]) W_ := fun W_ => by have e_ : (x54_4 : Int) = 1 := (by simpa using (show (x54_4 == 1) = true from (by assumption))); rw [e_]; rfl
                try go_wp2_with (first | ((with_reducible refine gate_dst (N := 13) rfl ?_); refine box_event ?hg (N := 13) ?hd (cs := #[.int .i64 0, .int .i64 0]) (t := 78) ?hr ?_; (case hd => rfl); (case hg => rfl); (case hr => first | (go_simp; done) | (go_simp; rfl)); intro gb121 hg w75 hbox hb; have n0_ := Aside0.mk (Kd.R_below (ra_ HO_6.out) hb); have n1_ := Aside0.mk (Kd.R_below (ra_ HO_7.out) hb); have n2_ := Aside0.mk (blk_below (g := gb103) (o := .cells #[.int .i64 a0_0, .slice (some ad113) l0_1.length c0_1] 26 (0, 0)) (bk_ BK103.out) hb); have n3_ := Aside0.mk (blk_below (g := gb114) (o := .cells #[.int .i64 ((rd_T52 l0_1 x39_3).f0), .int .i64 ((rd_T52 l0_1 x39_3).f1), .int .i64 ((rd_T52 l0_1 x39_3).f2)] 52 (0, 0)) (bk_ BK114.out) hb); have n4_ := Aside0.mk (below_step (bl2_ HB.out GE103.out GE114.out) hb); have n5_ := Aside0.mk (hbox); have n6_ := Aside0.mk ((by rw [hg]; exact (below_size (bl2_ HB.out GE103.out GE114.out)) : w.heap.size ≤ gb121)); have n7_ := Aside0.mk ((by rw [hg]; exact (below_size (bl2_ HB.out GE103.out GE114.out)) : w.heap.size ≤ gb121)); have n8_ := Aside0.mk ((by rw [hg]; exact Nat.ne_of_lt (blk_lt (bk_ BK103.out)) : gb103 ≠ gb121)); have n9_ := Aside0.mk ((by rw [hg]; exact Nat.ne_of_gt (blk_lt (bk_ BK103.out)) : gb121 ≠ gb103)); have n10_ := Aside0.mk ((by rw [hg]; exact Nat.ne_of_lt (blk_lt (bk_ BK114.out)) : gb114 ≠ gb121)); have n11_ := Aside0.mk ((by rw [hg]; exact Nat.ne_of_gt (blk_lt (bk_ BK114.out)) : gb121 ≠ gb114)); clear HO_6; clear HO_7; clear BK103; clear BK114; clear HB; have HO_6 := n0_; have HO_7 := n1_; have BK103 := n2_; have BK114 := n3_; have HB := n4_; have BK121 := n5_; have GW121 := n6_; have GE121 := n7_; have NB103_121 := n8_; have NB121_103 := n9_; have NB114_121 := n10_; have NB121_114 := n11_; clear n0_ n1_ n2_ n3_ n4_ n5_ n6_ n7_ n8_ n9_ n10_ n11_; clear hb hbox hg; have hnb76 := NB121_103.out; have hnc76 := NB103_121.out; have hnb77 := NB121_114.out; have hnc77 := NB114_121.out; obtain ⟨hcz78_0, hcz78_1, hfz78_0, hfz78_1⟩ := cz2_ BK121.out; have p122 : 0 ≤ (((rd_T52 l0_1 x39_3).f1) : Int) := od_; have q122 : ((rd_T52 l0_1 x39_3).f1) < (x6_4.length : Int) := od_; obtain ⟨ad122, e122, hx122_0⟩ := Kd.at_int (Kd.R_reads' HO_6.out).2.2 ((rd_T52 l0_1 x39_3).f1) p122 q122; obtain rfl : (⟨go25, 0, none⟩ : Addr) = ad122 := (by injection e122); (try first | simp only [add_plain] at hx122_0 | simp only [add_at] at hx122_0 | simp only [Addr.add, Nat.zero_add] at hx122_0); have hn122_0 : (⟨go25, 0, none⟩ : Addr).block ≠ gb121 := Kd.own_blk (Kd.R_ne HO_6.out BK121.out (by decide)); have hn122_1 : (⟨go25, 0, none⟩ : Addr).block ≠ gb121 := Kd.own_blk (Kd.R_ne HO_6.out BK121.out (by decide)); replace hx122_0 := (cell_far (p := ⟨gb121, 0, none⟩) (ab_ hn122_0) (.int .i64 ((rd_T52 l0_1 x39_3).f1))).trans hx122_0; replace hx122_0 := (cell_far (p := ⟨gb121, 1, none⟩) (ab_ hn122_1) (.int .i64 ((rd_T52 l0_1 x39_3).f0))).trans hx122_0; clear hn122_0; clear hn122_1; replace p122 := eq_true p122; replace q122 := eq_true q122; have p123 : 0 ≤ (((rd_T52 l0_1 x39_3).f0) : Int) := od_; have q123 : ((rd_T52 l0_1 x39_3).f0) < (x6_4.length : Int) := od_; obtain ⟨ad123, e123, hx123_0⟩ := Kd.at_int (Kd.R_reads' HO_6.out).2.2 ((rd_T52 l0_1 x39_3).f0) p123 q123; obtain rfl : (⟨go25, 0, none⟩ : Addr) = ad123 := (by injection e123); (try first | simp only [add_plain] at hx123_0 | simp only [add_at] at hx123_0 | simp only [Addr.add, Nat.zero_add] at hx123_0); have hn123_0 : (⟨go25, 0, none⟩ : Addr).block ≠ gb121 := Kd.own_blk (Kd.R_ne HO_6.out BK121.out (by decide)); have hn123_1 : (⟨go25, 0, none⟩ : Addr).block ≠ gb121 := Kd.own_blk (Kd.R_ne HO_6.out BK121.out (by decide)); replace hx123_0 := (cell_far (p := ⟨gb121, 0, none⟩) (ab_ hn123_0) (.int .i64 ((rd_T52 l0_1 x39_3).f1))).trans hx123_0; replace hx123_0 := (cell_far (p := ⟨gb121, 1, none⟩) (ab_ hn123_1) (.int .i64 ((rd_T52 l0_1 x39_3).f0))).trans hx123_0; clear hn123_0; clear hn123_1; replace p123 := eq_true p123; replace q123 := eq_true q123))
                have n0_ : Aside0 (Kd.R (Kd.int .i64) 2 ((w75.setCell ⟨gb121, 0, none⟩ (.int .i64 ((rd_T52 l0_1 x39_3).f1))).setCell ⟨gb121, 1, none⟩ (.int .i64 ((rd_T52 l0_1 x39_3).f0))) w.heap.size (fun k_ => some k_ ≠ (v108 : Value).ownBlock) (.slice (some ⟨go25, 0, none⟩) x6_4.length co12) x6_4) := ⟨by (with_reducible repeat (first | apply Kd.R_alloc | apply Kd.R_drewN | apply Kd.R_drew)); exact Kd.R_mono (Kd.R_far (p := ⟨gb121, 1, none⟩) (Kd.R_far (p := ⟨gb121, 0, none⟩) (Kd.R_types HO_6.out BK121.out (by decide)) (fun _ hk => hk.2) (.int .i64 ((rd_T52 l0_1 x39_3).f1))) (fun _ hk => hk.2) (.int .i64 ((rd_T52 l0_1 x39_3).f0))) (fun _ hk => hk.1)⟩
                have n1_ : Aside0 (Kd.R (Kd.int .i64) 2 ((w75.setCell ⟨gb121, 0, none⟩ (.int .i64 ((rd_T52 l0_1 x39_3).f1))).setCell ⟨gb121, 1, none⟩ (.int .i64 ((rd_T52 l0_1 x39_3).f0))) w.heap.size (fun k_ => some k_ ≠ (.slice (some ⟨go25, 0, none⟩) x6_4.length co12 : Value).ownBlock) v108 x7_4) := ⟨by (with_reducible repeat (first | apply Kd.R_alloc | apply Kd.R_drewN | apply Kd.R_drew)); exact Kd.R_mono (Kd.R_far (p := ⟨gb121, 1, none⟩) (Kd.R_far (p := ⟨gb121, 0, none⟩) (Kd.R_types HO_7.out BK121.out (by decide)) (fun _ hk => hk.2) (.int .i64 ((rd_T52 l0_1 x39_3).f1))) (fun _ hk => hk.2) (.int .i64 ((rd_T52 l0_1 x39_3).f0))) (fun _ hk => hk.1)⟩
                have n2_ : Aside0 (((w75.setCell ⟨gb121, 0, none⟩ (.int .i64 ((rd_T52 l0_1 x39_3).f1))).setCell ⟨gb121, 1, none⟩ (.int .i64 ((rd_T52 l0_1 x39_3).f0))).heap[gb103]? = some (.cells #[.int .i64 a0_0, .slice (some ad113) l0_1.length c0_1] 26 (0, 0))) := ⟨by (with_reducible repeat (first | refine blk_drewN ?_ _ | refine blk_drew ?_ | refine blk_alloc ?_ _)); refine blk_far ?_ NB103_121.out _; (with_reducible repeat (first | refine blk_drewN ?_ _ | refine blk_drew ?_ | refine blk_alloc ?_ _)); refine blk_far ?_ NB103_121.out _; (with_reducible repeat (first | refine blk_drewN ?_ _ | refine blk_drew ?_ | refine blk_alloc ?_ _)); exact BK103.out⟩
                have n3_ : Aside0 (((w75.setCell ⟨gb121, 0, none⟩ (.int .i64 ((rd_T52 l0_1 x39_3).f1))).setCell ⟨gb121, 1, none⟩ (.int .i64 ((rd_T52 l0_1 x39_3).f0))).heap[gb114]? = some (.cells #[.int .i64 ((rd_T52 l0_1 x39_3).f0), .int .i64 ((rd_T52 l0_1 x39_3).f1), .int .i64 ((rd_T52 l0_1 x39_3).f2)] 52 (0, 0))) := ⟨by (with_reducible repeat (first | refine blk_drewN ?_ _ | refine blk_drew ?_ | refine blk_alloc ?_ _)); refine blk_far ?_ NB114_121.out _; (with_reducible repeat (first | refine blk_drewN ?_ _ | refine blk_drew ?_ | refine blk_alloc ?_ _)); refine blk_far ?_ NB114_121.out _; (with_reducible repeat (first | refine blk_drewN ?_ _ | refine blk_drew ?_ | refine blk_alloc ?_ _)); exact BK114.out⟩
                have n4_ : Aside0 (((w75.setCell ⟨gb121, 0, none⟩ (.int .i64 ((rd_T52 l0_1 x39_3).f1))).setCell ⟨gb121, 1, none⟩ (.int .i64 ((rd_T52 l0_1 x39_3).f0))).heap[gb121]? = some (.cells #[.int .i64 ((rd_T52 l0_1 x39_3).f1), .int .i64 ((rd_T52 l0_1 x39_3).f0)] 78 (0, 0))) := ⟨by (with_reducible repeat (first | refine blk_drewN ?_ _ | refine blk_drew ?_ | refine blk_alloc ?_ _)); refine blk_put (cs := #[.int .i64 ((rd_T52 l0_1 x39_3).f1), .int .i64 0]) ?_ 1 _ rfl; (with_reducible repeat (first | refine blk_drewN ?_ _ | refine blk_drew ?_ | refine blk_alloc ?_ _)); refine blk_put (cs := #[.int .i64 0, .int .i64 0]) ?_ 0 _ rfl; (with_reducible repeat (first | refine blk_drewN ?_ _ | refine blk_drew ?_ | refine blk_alloc ?_ _)); exact BK121.out⟩
                have n5_ : Aside0 (Below w.heap.size w ((w75.setCell ⟨gb121, 0, none⟩ (.int .i64 ((rd_T52 l0_1 x39_3).f1))).setCell ⟨gb121, 1, none⟩ (.int .i64 ((rd_T52 l0_1 x39_3).f0)))) := ⟨bl3_ HB.out GE103.out GE114.out GE121.out⟩
                (try clear HO_6)
                (try clear HO_7)
                (try clear BK103)
                (try clear BK114)
                (try clear BK121)
                (try clear HB)
                generalize ((w75.setCell ⟨gb121, 0, none⟩ (.int .i64 ((rd_T52 l0_1 x39_3).f1))).setCell ⟨gb121, 1, none⟩ (.int .i64 ((rd_T52 l0_1 x39_3).f0))) = w79 at n0_ n1_ n2_ n3_ n4_ n5_ ⊢
                have HO_6 := n0_
                have HO_7 := n1_
                have BK103 := n2_
                have BK114 := n3_
                have BK121 := n4_
                have HB := n5_
                clear n0_ n1_ n2_ n3_ n4_ n5_
                have n0_ := Aside0.mk (Kd.R_drew HO_6.out)
                have n1_ := Aside0.mk (Kd.R_drew HO_7.out)
                have n2_ := Aside0.mk (blk_drew BK103.out)
                have n3_ := Aside0.mk (blk_drew BK114.out)
                have n4_ := Aside0.mk (blk_drew BK121.out)
                have n5_ := Aside0.mk (below_drew1 HB.out)
                clear HO_6
                clear HO_7
                clear BK103
                clear BK114
                clear BK121
                clear HB
                have HO_6 := n0_
                have HO_7 := n1_
                have BK103 := n2_
                have BK114 := n3_
                have BK121 := n4_
                have HB := n5_
                clear n0_ n1_ n2_ n3_ n4_ n5_
                have p124 : 0 ≤ (((rd_T52 l0_1 x39_3).f1) : Int) := od_
                have q124 : ((rd_T52 l0_1 x39_3).f1) < (x6_4.length : Int) := od_
                obtain ⟨ad124, e124, hx124_0⟩ := Kd.at_int (Kd.R_reads' HO_6.out).2.2 ((rd_T52 l0_1 x39_3).f1) p124 q124
                obtain rfl : (⟨go25, 0, none⟩ : Addr) = ad124 := (by injection e124)
                (try first | simp only [add_plain] at hx124_0 | simp only [add_at] at hx124_0 | simp only [Addr.add, Nat.zero_add] at hx124_0)
                replace p124 := eq_true p124
                replace q124 := eq_true q124
                have p72 : 0 ≤ (((rd_T52 l0_1 x39_3).f0) : Int) := od_
                have q72 : (((rd_T52 l0_1 x39_3).f0) : Int) < ((x6_4.length : Int) : Int) := od_
                obtain ⟨hx72_0, hf72_0⟩ := Kd.R_celln 0 HO_6.out (((rd_T52 l0_1 x39_3).f0) : Int) p72 q72
                replace p72 := eq_true p72
                replace q72 := eq_true q72
                have HP81 := Kd.R_putn HO_6.out (((rd_T52 l0_1 x39_3).f0) : Int) (wrap64 ((rd x6_4 ((rd_T52 l0_1 x39_3).f1)) + ((rd_T52 l0_1 x39_3).f2)))
                rw [← Ny125.out] at HP81
                have HQ81 := Aside0.mk HP81
                clear HP81
                have p74 : 0 ≤ (((rd_T52 l0_1 x39_3).f0) : Int) := od_
                have q74 : (((rd_T52 l0_1 x39_3).f0) : Int) < ((x7_4.length : Int) : Int) := od_
                obtain ⟨go74, co74, eo74, gb74, gl74, cl74, HG74⟩ := Kd.R_form HO_7.out (by omega)
                (first | cases eo74 | (injection eo74 with ea_ en_ ec_; (first | subst ea_ | (injection ea_ with ea_; subst ea_)); subst ec_; clear en_))
                have GB74 := Aside0.mk gb74
                have GG74 := Aside0.mk HG74
                clear gb74 gl74 HG74
                obtain ⟨hx74_0, hf74_0⟩ := Kd.R_celln 0 (Kd.R_far (p := ⟨go25, (((rd_T52 l0_1 x39_3).f0) : Int).toNat, none⟩) (Kd.R_mono HO_7.out (fun k_ hk => (⟨hk, fun e_ => hk (by rw [e_]; rfl)⟩ : _ ∧ k_ ≠ go25))) (fun _ hk => hk.2) (.int .i64 (wrap64 ((rd x6_4 ((rd_T52 l0_1 x39_3).f1)) + ((rd_T52 l0_1 x39_3).f2))))) (((rd_T52 l0_1 x39_3).f0) : Int) p74 q74
                replace p74 := eq_true p74
                replace q74 := eq_true q74
                have HP82 := Kd.R_putn (Kd.R_far (p := ⟨go25, (((rd_T52 l0_1 x39_3).f0) : Int).toNat, none⟩) (Kd.R_mono HO_7.out (fun k_ hk => (⟨hk, fun e_ => hk (by rw [e_]; rfl)⟩ : _ ∧ k_ ≠ go25))) (fun _ hk => hk.2) (.int .i64 (wrap64 ((rd x6_4 ((rd_T52 l0_1 x39_3).f1)) + ((rd_T52 l0_1 x39_3).f2))))) (((rd_T52 l0_1 x39_3).f0) : Int) ((rd_T52 l0_1 x39_3).f1)
                rw [← Ny126.out] at HP82
                have HQ82 := Aside0.mk HP82
                clear HP82
                have hrn121_go25 : gb121 ≠ go25 := Ne.symm (Kd.own_blk (Kd.R_ne HO_6.out BK121.out (by decide)))
                have hrn114_go25 : gb114 ≠ go25 := Ne.symm (Kd.own_blk (Kd.R_ne HO_6.out BK114.out (by decide)))
                have hrn121_go74 : gb121 ≠ go74 := Ne.symm (Kd.own_blk (Kd.R_ne HO_7.out BK121.out (by decide)))
                have hrn114_go74 : gb114 ≠ go74 := Ne.symm (Kd.own_blk (Kd.R_ne HO_7.out BK114.out (by decide)))
                refine start_ (n := 21) (S := fun w' => w'.cell? ⟨gb121, 0, none⟩ = some (.int .i64 ((rd_T52 l0_1 x39_3).f1)) ∧ w'.cell? ⟨gb121, 1, none⟩ = some (.int .i64 ((rd_T52 l0_1 x39_3).f0)) ∧ w'.cell? ⟨gb114, 0, none⟩ = some (.int .i64 ((rd_T52 l0_1 x39_3).f0)) ∧ w'.cell? ⟨gb114, 1, none⟩ = some (.int .i64 ((rd_T52 l0_1 x39_3).f1)) ∧ w'.cell? ⟨gb114, 2, none⟩ = some (.int .i64 ((rd_T52 l0_1 x39_3).f2))) (ds := []) (nb_ 21 0) (by kernel_rfl) rfl rfl ⟨(blk_cell BK121.out 0).trans rfl, (blk_cell BK121.out 1).trans rfl, (blk_cell BK114.out 0).trans rfl, (blk_cell BK114.out 1).trans rfl, (blk_cell BK114.out 2).trans rfl⟩ (fun hHeld => ?_); refine with_tabW impl_Tree_far.tab18 impl_Tree_far.bits18 (fun HT_ HW_ => ?_)
                generalize w79.drew = w80 at HO_6 HO_7 BK103 BK114 BK121 HB GG74 HQ81 HQ82 hf72_0 hf74_0 hx124_0 hx72_0 hx74_0 hHeld ⊢
                refine puz_ 0 (some 71) (nb_ 21 1) rfl rfl (any_of HT_.out (by kernel_rfl)) ?_
                refine puz_ 1 (some 72) (nb_ 21 3) rfl rfl (any_of HT_.out (by kernel_rfl)) ?_
                refine puz_ 3 (some 74) (nb_ 21 11) rfl rfl (any_of HT_.out (by kernel_rfl)) ?_
                refine puz_ 4 (some 75) (nb_ 21 27) rfl rfl (any_of HT_.out (by kernel_rfl)) ?_
                refine puz_ 6 (some 77) (nb_ 21 91) rfl rfl (any_of HT_.out (by kernel_rfl)) ?_
                refine puz_ 7 (some 78) (nb_ 21 219) rfl rfl (any_of HT_.out (by kernel_rfl)) ?_
                refine puz_ 11 (some 82) (nb_ 21 2267) rfl rfl (any_of HT_.out (by kernel_rfl)) ?_
                refine puz_ 14 (some 85) (nb_ 21 18651) rfl rfl (any_of HT_.out (by kernel_rfl)) ?_
                refine tkz_ 2 (some 73) (nb_ 21 18655) rfl rfl (take_ofW HT_.out HW_.out (by kernel_rfl)) hHeld ?_
                refine tkz_ 5 (some 76) (nb_ 21 18687) rfl rfl (take_ofW HT_.out HW_.out (by kernel_rfl)) hHeld ?_
                refine tkz_ 8 (some 79) (nb_ 21 18943) rfl rfl (take_ofW HT_.out HW_.out (by kernel_rfl)) hHeld ?_
                refine puz_ 9 (some 80) (nb_ 21 19455) rfl rfl (any_of HT_.out (by kernel_rfl)) ?_
                refine tkz_ 12 (some 83) (nb_ 21 23551) rfl rfl (take_ofW HT_.out HW_.out (by kernel_rfl)) hHeld ?_
                refine tkz_ 15 (some 86) (nb_ 21 56319) rfl rfl (take_ofW HT_.out HW_.out (by kernel_rfl)) hHeld ?_
                refine one_ (i := 10) (N := some 81) (nb_ 21 57343) rfl rfl (one_of HT_.out (by kernel_rfl)) (by decide) (fun K hK => ?_)
                refine value_ (w1 := ?_) (v := ?_) (by rfl) rfl ?_ ?_
                rotate_left 2
                ·go_simp
                 constructor
                 ·rfl
                 ·rfl
                refine hK.out _ _ ⟨hHeld.1, hHeld.2.1, hHeld.2.2.1, hHeld.2.2.2.1, hHeld.2.2.2.2⟩ (fun hHeld => ?_)
                clear hK K
                refine norm_ (a' := ?_) ?_ ?_
                rotate_left
                ·show Act.put _ (some 81) _ = _
                 simp only [Act.put, List.setIfInBounds_toArray, List.set_cons_zero, List.set_cons_succ, i64_w, i32_w]
                 rfl
                refine puz_ 13 (some 84) (nb_ 21 65535) rfl rfl (any_of HT_.out (by kernel_rfl)) ?_
                refine puz_ 16 (some 87) (nb_ 21 131071) rfl rfl (any_of HT_.out (by kernel_rfl)) ?_
                refine one_ (i := 17) (N := none) (nb_ 21 262143) rfl rfl (one_of HT_.out (by kernel_rfl)) (by decide) (fun K hK => ?_)
                refine skip_ (w1 := ?_) (by rfl) rfl ?_ ?_
                rotate_left
                ·go_simp
                 rfl
                refine hK.out _ _ ⟨((cell_far (p := ⟨go25, _, none⟩) hrn121_go25 _).trans (hHeld.1)), ((cell_far (p := ⟨go25, _, none⟩) hrn121_go25 _).trans (hHeld.2.1)), ((cell_far (p := ⟨go25, _, none⟩) hrn114_go25 _).trans (hHeld.2.2.1)), ((cell_far (p := ⟨go25, _, none⟩) hrn114_go25 _).trans (hHeld.2.2.2.1)), ((cell_far (p := ⟨go25, _, none⟩) hrn114_go25 _).trans (hHeld.2.2.2.2))⟩ (fun hHeld => ?_)
                clear hK K
                refine puz_ 18 (some 88) (nb_ 21 524287) rfl rfl (any_of HT_.out (by kernel_rfl)) ?_
                refine one_ (i := 19) (N := none) (nb_ 21 1048575) rfl rfl (one_of HT_.out (by kernel_rfl)) (by decide) (fun K hK => ?_)
                refine skip_ (w1 := ?_) (by rfl) rfl ?_ ?_
                rotate_left
                ·go_simp
                 rfl
                refine hK.out _ _ ⟨((cell_far (p := ⟨go74, _, none⟩) hrn121_go74 _).trans (hHeld.1)), ((cell_far (p := ⟨go74, _, none⟩) hrn121_go74 _).trans (hHeld.2.1)), ((cell_far (p := ⟨go74, _, none⟩) hrn114_go74 _).trans (hHeld.2.2.1)), ((cell_far (p := ⟨go74, _, none⟩) hrn114_go74 _).trans (hHeld.2.2.2.1)), ((cell_far (p := ⟨go74, _, none⟩) hrn114_go74 _).trans (hHeld.2.2.2.2))⟩ (fun hHeld => ?_)
                clear hK K
                refine puz_ 20 (some 9) (nb_ 21 2097151) rfl rfl (any_of HT_.out (by kernel_rfl)) ?_
                refine done_ (done_of HT_.out (by kernel_rfl)) ?_
                try go_wp2
                (try simp only [← hl6_4])
                go_roundg k4
                case measure => have := HK1.out; have := HK2.out; have := HK3.out; have := HK4.out; omega
                case rel => exact ⟨(y125), (y126), (true), (wrap64 (x54_4 + 1)), rs_, rs_, H', ⟨by have := HK1.out; have := HK2.out; have := HK3.out; have := HK4.out; omega⟩, ⟨by (try simp only [hl6_1]); (try simp only [hl6_2]); (try simp only [hl6_3]); (try simp only [hl6_4]); (with_reducible repeat (first | apply Kd.R_alloc | apply Kd.R_drewN | apply Kd.R_drew)); exact Kd.R_mono (Kd.R_far (p := ⟨go74, (((rd_T52 l0_1 x39_3).f0) : Int).toNat, none⟩) (Kd.R_mono HQ81.out (fun k_ hk => (⟨hk, fun e_ => hk (by rw [e_]; rfl)⟩ : _ ∧ k_ ≠ go74))) (fun _ hk => hk.2) (.int .i64 ((rd_T52 l0_1 x39_3).f1))) (fun _ hk => hk.1)⟩, ⟨by (try simp only [hl6_1]); (try simp only [hl6_2]); (try simp only [hl6_3]); (try simp only [hl6_4]); (with_reducible repeat (first | apply Kd.R_alloc | apply Kd.R_drewN | apply Kd.R_drew)); exact Kd.R_mono HQ82.out (fun _ hk => hk.1)⟩, ⟨by (try simp only [hl6_1]); (try simp only [hl6_2]); (try simp only [hl6_3]); (try simp only [hl6_4]); (with_reducible repeat (first | refine blk_drewN ?_ _ | refine blk_drew ?_ | refine blk_alloc ?_ _)); refine blk_far ?_ (by have h_ := Kd.R_ne HO_7.out BK103.out (by decide); intro e_; exact h_ (by rw [e_]; rfl)) _; (with_reducible repeat (first | refine blk_drewN ?_ _ | refine blk_drew ?_ | refine blk_alloc ?_ _)); refine blk_far ?_ (by have h_ := Kd.R_ne HO_6.out BK103.out (by decide); intro e_; exact h_ (by rw [e_]; rfl)) _; (with_reducible repeat (first | refine blk_drewN ?_ _ | refine blk_drew ?_ | refine blk_alloc ?_ _)); exact BK103.out⟩, ⟨by (try simp only [hl6_1]); (try simp only [hl6_2]); (try simp only [hl6_3]); (try simp only [hl6_4]); (with_reducible repeat (first | refine blk_drewN ?_ _ | refine blk_drew ?_ | refine blk_alloc ?_ _)); refine blk_far ?_ (by have h_ := Kd.R_ne HO_7.out BK114.out (by decide); intro e_; exact h_ (by rw [e_]; rfl)) _; (with_reducible repeat (first | refine blk_drewN ?_ _ | refine blk_drew ?_ | refine blk_alloc ?_ _)); refine blk_far ?_ (by have h_ := Kd.R_ne HO_6.out BK114.out (by decide); intro e_; exact h_ (by rw [e_]; rfl)) _; (with_reducible repeat (first | refine blk_drewN ?_ _ | refine blk_drew ?_ | refine blk_alloc ?_ _)); exact BK114.out⟩, ⟨by repeat (first | (with_reducible first | exact HB.out | apply below_alloc | apply pw_below_drewN | apply below_drew1 | refine below_set ?_ GB25.out | refine below_set ?_ GB74.out | refine below_set ?_ GE103.out | refine below_set ?_ GE114.out | refine below_set ?_ GE121.out) | exact HB.out)⟩⟩
               ·rw [if_neg c71] at H
                have c71b0 := decide_eq_false c71
                clear c71
                have H' := Aside0.mk H
                clear H
                have hix65 : ∀ W_ : World, (Instr.index 79 (.agg #[.int .i64 ((rd_T52 l0_1 x39_3).f0), .int .i64 ((rd_T52 l0_1 x39_3).f1), .int .i64 ((rd_T52 l0_1 x39_3).f1), .int .i64 ((rd_T52 l0_1 x39_3).f0)]) (.int .i64 x54_4)).run Tryd.prog W_ = .ok (.agg #[.int .i64 ((rd_T52 l0_1 x39_3).f1), .int .i64 ((rd_T52 l0_1 x39_3).f0)]) W_ := fun W_ => by have e_ : (x54_4 : Int) = 1 := (by simpa using (show (x54_4 == 1) = true from (by assumption))); rw [e_]; rfl
                go_wp2_with (first | ((with_reducible refine gate_dst (N := 13) rfl ?_); refine box_event ?hg (N := 13) ?hd (cs := #[.int .i64 0, .int .i64 0]) (t := 78) ?hr ?_; (case hd => rfl); (case hg => rfl); (case hr => first | (go_simp; done) | (go_simp; rfl)); intro gb121 hg w83 hbox hb; have n0_ := Aside0.mk (Kd.R_below (ra_ HO_6.out) hb); have n1_ := Aside0.mk (Kd.R_below (ra_ HO_7.out) hb); have n2_ := Aside0.mk (blk_below (g := gb103) (o := .cells #[.int .i64 a0_0, .slice (some ad113) l0_1.length c0_1] 26 (0, 0)) (bk_ BK103.out) hb); have n3_ := Aside0.mk (blk_below (g := gb114) (o := .cells #[.int .i64 ((rd_T52 l0_1 x39_3).f0), .int .i64 ((rd_T52 l0_1 x39_3).f1), .int .i64 ((rd_T52 l0_1 x39_3).f2)] 52 (0, 0)) (bk_ BK114.out) hb); have n4_ := Aside0.mk (below_step (bl2_ HB.out GE103.out GE114.out) hb); have n5_ := Aside0.mk (hbox); have n6_ := Aside0.mk ((by rw [hg]; exact (below_size (bl2_ HB.out GE103.out GE114.out)) : w.heap.size ≤ gb121)); have n7_ := Aside0.mk ((by rw [hg]; exact (below_size (bl2_ HB.out GE103.out GE114.out)) : w.heap.size ≤ gb121)); have n8_ := Aside0.mk ((by rw [hg]; exact Nat.ne_of_lt (blk_lt (bk_ BK103.out)) : gb103 ≠ gb121)); have n9_ := Aside0.mk ((by rw [hg]; exact Nat.ne_of_gt (blk_lt (bk_ BK103.out)) : gb121 ≠ gb103)); have n10_ := Aside0.mk ((by rw [hg]; exact Nat.ne_of_lt (blk_lt (bk_ BK114.out)) : gb114 ≠ gb121)); have n11_ := Aside0.mk ((by rw [hg]; exact Nat.ne_of_gt (blk_lt (bk_ BK114.out)) : gb121 ≠ gb114)); clear HO_6; clear HO_7; clear BK103; clear BK114; clear HB; have HO_6 := n0_; have HO_7 := n1_; have BK103 := n2_; have BK114 := n3_; have HB := n4_; have BK121 := n5_; have GW121 := n6_; have GE121 := n7_; have NB103_121 := n8_; have NB121_103 := n9_; have NB114_121 := n10_; have NB121_114 := n11_; clear n0_ n1_ n2_ n3_ n4_ n5_ n6_ n7_ n8_ n9_ n10_ n11_; clear hb hbox hg; have hnb84 := NB121_103.out; have hnc84 := NB103_121.out; have hnb85 := NB121_114.out; have hnc85 := NB114_121.out; obtain ⟨hcz86_0, hcz86_1, hfz86_0, hfz86_1⟩ := cz2_ BK121.out; have p122 : 0 ≤ (((rd_T52 l0_1 x39_3).f1) : Int) := od_; have q122 : ((rd_T52 l0_1 x39_3).f1) < (x6_4.length : Int) := od_; obtain ⟨ad122, e122, hx122_0⟩ := Kd.at_int (Kd.R_reads' HO_6.out).2.2 ((rd_T52 l0_1 x39_3).f1) p122 q122; obtain rfl : (⟨go25, 0, none⟩ : Addr) = ad122 := (by injection e122); (try first | simp only [add_plain] at hx122_0 | simp only [add_at] at hx122_0 | simp only [Addr.add, Nat.zero_add] at hx122_0); have hn122_0 : (⟨go25, 0, none⟩ : Addr).block ≠ gb121 := Kd.own_blk (Kd.R_ne HO_6.out BK121.out (by decide)); have hn122_1 : (⟨go25, 0, none⟩ : Addr).block ≠ gb121 := Kd.own_blk (Kd.R_ne HO_6.out BK121.out (by decide)); replace hx122_0 := (cell_far (p := ⟨gb121, 0, none⟩) (ab_ hn122_0) (.int .i64 ((rd_T52 l0_1 x39_3).f1))).trans hx122_0; replace hx122_0 := (cell_far (p := ⟨gb121, 1, none⟩) (ab_ hn122_1) (.int .i64 ((rd_T52 l0_1 x39_3).f0))).trans hx122_0; clear hn122_0; clear hn122_1; replace p122 := eq_true p122; replace q122 := eq_true q122; have p123 : 0 ≤ (((rd_T52 l0_1 x39_3).f0) : Int) := od_; have q123 : ((rd_T52 l0_1 x39_3).f0) < (x6_4.length : Int) := od_; obtain ⟨ad123, e123, hx123_0⟩ := Kd.at_int (Kd.R_reads' HO_6.out).2.2 ((rd_T52 l0_1 x39_3).f0) p123 q123; obtain rfl : (⟨go25, 0, none⟩ : Addr) = ad123 := (by injection e123); (try first | simp only [add_plain] at hx123_0 | simp only [add_at] at hx123_0 | simp only [Addr.add, Nat.zero_add] at hx123_0); have hn123_0 : (⟨go25, 0, none⟩ : Addr).block ≠ gb121 := Kd.own_blk (Kd.R_ne HO_6.out BK121.out (by decide)); have hn123_1 : (⟨go25, 0, none⟩ : Addr).block ≠ gb121 := Kd.own_blk (Kd.R_ne HO_6.out BK121.out (by decide)); replace hx123_0 := (cell_far (p := ⟨gb121, 0, none⟩) (ab_ hn123_0) (.int .i64 ((rd_T52 l0_1 x39_3).f1))).trans hx123_0; replace hx123_0 := (cell_far (p := ⟨gb121, 1, none⟩) (ab_ hn123_1) (.int .i64 ((rd_T52 l0_1 x39_3).f0))).trans hx123_0; clear hn123_0; clear hn123_1; replace p123 := eq_true p123; replace q123 := eq_true q123))
                (try simp only [← hl6_4])
                go_roundg k4
                case measure => have := HK1.out; have := HK2.out; have := HK3.out; have := HK4.out; omega
                case rel => exact ⟨(x6_4), (x7_4), (x9_4), (wrap64 (x54_4 + 1)), rs_, rs_, H', ⟨by have := HK1.out; have := HK2.out; have := HK3.out; have := HK4.out; omega⟩, ⟨by (try simp only [hl6_1]); (try simp only [hl6_2]); (try simp only [hl6_3]); (try simp only [hl6_4]); (with_reducible repeat (first | apply Kd.R_alloc | apply Kd.R_drewN | apply Kd.R_drew)); exact Kd.R_mono (Kd.R_far (p := ⟨gb121, 1, none⟩) (Kd.R_far (p := ⟨gb121, 0, none⟩) (Kd.R_types HO_6.out BK121.out (by decide)) (fun _ hk => hk.2) (.int .i64 ((rd_T52 l0_1 x39_3).f1))) (fun _ hk => hk.2) (.int .i64 ((rd_T52 l0_1 x39_3).f0))) (fun _ hk => hk.1)⟩, ⟨by (try simp only [hl6_1]); (try simp only [hl6_2]); (try simp only [hl6_3]); (try simp only [hl6_4]); (with_reducible repeat (first | apply Kd.R_alloc | apply Kd.R_drewN | apply Kd.R_drew)); exact Kd.R_mono (Kd.R_far (p := ⟨gb121, 1, none⟩) (Kd.R_far (p := ⟨gb121, 0, none⟩) (Kd.R_types HO_7.out BK121.out (by decide)) (fun _ hk => hk.2) (.int .i64 ((rd_T52 l0_1 x39_3).f1))) (fun _ hk => hk.2) (.int .i64 ((rd_T52 l0_1 x39_3).f0))) (fun _ hk => hk.1)⟩, ⟨by (try simp only [hl6_1]); (try simp only [hl6_2]); (try simp only [hl6_3]); (try simp only [hl6_4]); (with_reducible repeat (first | refine blk_drewN ?_ _ | refine blk_drew ?_ | refine blk_alloc ?_ _)); refine blk_far ?_ NB103_121.out _; (with_reducible repeat (first | refine blk_drewN ?_ _ | refine blk_drew ?_ | refine blk_alloc ?_ _)); refine blk_far ?_ NB103_121.out _; (with_reducible repeat (first | refine blk_drewN ?_ _ | refine blk_drew ?_ | refine blk_alloc ?_ _)); exact BK103.out⟩, ⟨by (try simp only [hl6_1]); (try simp only [hl6_2]); (try simp only [hl6_3]); (try simp only [hl6_4]); (with_reducible repeat (first | refine blk_drewN ?_ _ | refine blk_drew ?_ | refine blk_alloc ?_ _)); refine blk_far ?_ NB114_121.out _; (with_reducible repeat (first | refine blk_drewN ?_ _ | refine blk_drew ?_ | refine blk_alloc ?_ _)); refine blk_far ?_ NB114_121.out _; (with_reducible repeat (first | refine blk_drewN ?_ _ | refine blk_drew ?_ | refine blk_alloc ?_ _)); exact BK114.out⟩, ⟨bl3_ HB.out GE103.out GE114.out GE121.out⟩⟩
              ·rw [if_neg c68] at H
               have c68b0 : decide (0 ≤ (rd x6_4 ((rd_T52 l0_1 x39_3).f1))) = false := decide_eq_false c68
               clear c68
               have H' := Aside0.mk H
               clear H
               have hix65 : ∀ W_ : World, (Instr.index 79 (.agg #[.int .i64 ((rd_T52 l0_1 x39_3).f0), .int .i64 ((rd_T52 l0_1 x39_3).f1), .int .i64 ((rd_T52 l0_1 x39_3).f1), .int .i64 ((rd_T52 l0_1 x39_3).f0)]) (.int .i64 x54_4)).run Tryd.prog W_ = .ok (.agg #[.int .i64 ((rd_T52 l0_1 x39_3).f1), .int .i64 ((rd_T52 l0_1 x39_3).f0)]) W_ := fun W_ => by have e_ : (x54_4 : Int) = 1 := (by simpa using (show (x54_4 == 1) = true from (by assumption))); rw [e_]; rfl
               go_wp2_with (first | ((with_reducible refine gate_dst (N := 13) rfl ?_); refine box_event ?hg (N := 13) ?hd (cs := #[.int .i64 0, .int .i64 0]) (t := 78) ?hr ?_; (case hd => rfl); (case hg => rfl); (case hr => first | (go_simp; done) | (go_simp; rfl)); intro gb121 hg w87 hbox hb; have n0_ := Aside0.mk (Kd.R_below (ra_ HO_6.out) hb); have n1_ := Aside0.mk (Kd.R_below (ra_ HO_7.out) hb); have n2_ := Aside0.mk (blk_below (g := gb103) (o := .cells #[.int .i64 a0_0, .slice (some ad113) l0_1.length c0_1] 26 (0, 0)) (bk_ BK103.out) hb); have n3_ := Aside0.mk (blk_below (g := gb114) (o := .cells #[.int .i64 ((rd_T52 l0_1 x39_3).f0), .int .i64 ((rd_T52 l0_1 x39_3).f1), .int .i64 ((rd_T52 l0_1 x39_3).f2)] 52 (0, 0)) (bk_ BK114.out) hb); have n4_ := Aside0.mk (below_step (bl2_ HB.out GE103.out GE114.out) hb); have n5_ := Aside0.mk (hbox); have n6_ := Aside0.mk ((by rw [hg]; exact (below_size (bl2_ HB.out GE103.out GE114.out)) : w.heap.size ≤ gb121)); have n7_ := Aside0.mk ((by rw [hg]; exact (below_size (bl2_ HB.out GE103.out GE114.out)) : w.heap.size ≤ gb121)); have n8_ := Aside0.mk ((by rw [hg]; exact Nat.ne_of_lt (blk_lt (bk_ BK103.out)) : gb103 ≠ gb121)); have n9_ := Aside0.mk ((by rw [hg]; exact Nat.ne_of_gt (blk_lt (bk_ BK103.out)) : gb121 ≠ gb103)); have n10_ := Aside0.mk ((by rw [hg]; exact Nat.ne_of_lt (blk_lt (bk_ BK114.out)) : gb114 ≠ gb121)); have n11_ := Aside0.mk ((by rw [hg]; exact Nat.ne_of_gt (blk_lt (bk_ BK114.out)) : gb121 ≠ gb114)); clear HO_6; clear HO_7; clear BK103; clear BK114; clear HB; have HO_6 := n0_; have HO_7 := n1_; have BK103 := n2_; have BK114 := n3_; have HB := n4_; have BK121 := n5_; have GW121 := n6_; have GE121 := n7_; have NB103_121 := n8_; have NB121_103 := n9_; have NB114_121 := n10_; have NB121_114 := n11_; clear n0_ n1_ n2_ n3_ n4_ n5_ n6_ n7_ n8_ n9_ n10_ n11_; clear hb hbox hg; have hnb88 := NB121_103.out; have hnc88 := NB103_121.out; have hnb89 := NB121_114.out; have hnc89 := NB114_121.out; obtain ⟨hcz90_0, hcz90_1, hfz90_0, hfz90_1⟩ := cz2_ BK121.out; have p122 : 0 ≤ (((rd_T52 l0_1 x39_3).f1) : Int) := od_; have q122 : ((rd_T52 l0_1 x39_3).f1) < (x6_4.length : Int) := od_; obtain ⟨ad122, e122, hx122_0⟩ := Kd.at_int (Kd.R_reads' HO_6.out).2.2 ((rd_T52 l0_1 x39_3).f1) p122 q122; obtain rfl : (⟨go25, 0, none⟩ : Addr) = ad122 := (by injection e122); (try first | simp only [add_plain] at hx122_0 | simp only [add_at] at hx122_0 | simp only [Addr.add, Nat.zero_add] at hx122_0); have hn122_0 : (⟨go25, 0, none⟩ : Addr).block ≠ gb121 := Kd.own_blk (Kd.R_ne HO_6.out BK121.out (by decide)); have hn122_1 : (⟨go25, 0, none⟩ : Addr).block ≠ gb121 := Kd.own_blk (Kd.R_ne HO_6.out BK121.out (by decide)); replace hx122_0 := (cell_far (p := ⟨gb121, 0, none⟩) (ab_ hn122_0) (.int .i64 ((rd_T52 l0_1 x39_3).f1))).trans hx122_0; replace hx122_0 := (cell_far (p := ⟨gb121, 1, none⟩) (ab_ hn122_1) (.int .i64 ((rd_T52 l0_1 x39_3).f0))).trans hx122_0; clear hn122_0; clear hn122_1; replace p122 := eq_true p122; replace q122 := eq_true q122))
               (try simp only [← hl6_4])
               go_roundg k4
               case measure => have := HK1.out; have := HK2.out; have := HK3.out; have := HK4.out; omega
               case rel => exact ⟨(x6_4), (x7_4), (x9_4), (wrap64 (x54_4 + 1)), rs_, rs_, H', ⟨by have := HK1.out; have := HK2.out; have := HK3.out; have := HK4.out; omega⟩, ⟨by (try simp only [hl6_1]); (try simp only [hl6_2]); (try simp only [hl6_3]); (try simp only [hl6_4]); (with_reducible repeat (first | apply Kd.R_alloc | apply Kd.R_drewN | apply Kd.R_drew)); exact Kd.R_mono (Kd.R_far (p := ⟨gb121, 1, none⟩) (Kd.R_far (p := ⟨gb121, 0, none⟩) (Kd.R_types HO_6.out BK121.out (by decide)) (fun _ hk => hk.2) (.int .i64 ((rd_T52 l0_1 x39_3).f1))) (fun _ hk => hk.2) (.int .i64 ((rd_T52 l0_1 x39_3).f0))) (fun _ hk => hk.1)⟩, ⟨by (try simp only [hl6_1]); (try simp only [hl6_2]); (try simp only [hl6_3]); (try simp only [hl6_4]); (with_reducible repeat (first | apply Kd.R_alloc | apply Kd.R_drewN | apply Kd.R_drew)); exact Kd.R_mono (Kd.R_far (p := ⟨gb121, 1, none⟩) (Kd.R_far (p := ⟨gb121, 0, none⟩) (Kd.R_types HO_7.out BK121.out (by decide)) (fun _ hk => hk.2) (.int .i64 ((rd_T52 l0_1 x39_3).f1))) (fun _ hk => hk.2) (.int .i64 ((rd_T52 l0_1 x39_3).f0))) (fun _ hk => hk.1)⟩, ⟨by (try simp only [hl6_1]); (try simp only [hl6_2]); (try simp only [hl6_3]); (try simp only [hl6_4]); (with_reducible repeat (first | refine blk_drewN ?_ _ | refine blk_drew ?_ | refine blk_alloc ?_ _)); refine blk_far ?_ NB103_121.out _; (with_reducible repeat (first | refine blk_drewN ?_ _ | refine blk_drew ?_ | refine blk_alloc ?_ _)); refine blk_far ?_ NB103_121.out _; (with_reducible repeat (first | refine blk_drewN ?_ _ | refine blk_drew ?_ | refine blk_alloc ?_ _)); exact BK103.out⟩, ⟨by (try simp only [hl6_1]); (try simp only [hl6_2]); (try simp only [hl6_3]); (try simp only [hl6_4]); (with_reducible repeat (first | refine blk_drewN ?_ _ | refine blk_drew ?_ | refine blk_alloc ?_ _)); refine blk_far ?_ NB114_121.out _; (with_reducible repeat (first | refine blk_drewN ?_ _ | refine blk_drew ?_ | refine blk_alloc ?_ _)); refine blk_far ?_ NB114_121.out _; (with_reducible repeat (first | refine blk_drewN ?_ _ | refine blk_drew ?_ | refine blk_alloc ?_ _)); exact BK114.out⟩, ⟨bl3_ HB.out GE103.out GE114.out GE121.out⟩⟩
            ·rw [if_neg c36] at H
             have c36b0 := decide_eq_false c36
             clear c36
             have H' := Aside0.mk H
             clear H
             go_wp2
             (try simp only [← hl6_3, ← hl6_4])
             go_roundg k4
             case measure => have := HK1.out; have := HK2.out; have := HK3.out; have := HK4.out; omega
             case rel => exact ⟨(x6_4), (x7_4), (x9_4), (wrap64 (x39_3 + 1)), rs_, rs_, H', ⟨by have := HK1.out; have := HK2.out; have := HK3.out; have := HK4.out; omega⟩, ⟨by (try simp only [hl6_1]); (try simp only [hl6_2]); (try simp only [hl6_3]); (try simp only [hl6_4]); (with_reducible repeat (first | apply Kd.R_alloc | apply Kd.R_drewN | apply Kd.R_drew)); exact HO_6.out⟩, ⟨by (try simp only [hl6_1]); (try simp only [hl6_2]); (try simp only [hl6_3]); (try simp only [hl6_4]); (with_reducible repeat (first | apply Kd.R_alloc | apply Kd.R_drewN | apply Kd.R_drew)); exact HO_7.out⟩, ⟨by (try simp only [hl6_1]); (try simp only [hl6_2]); (try simp only [hl6_3]); (try simp only [hl6_4]); (with_reducible repeat (first | refine blk_drewN ?_ _ | refine blk_drew ?_ | refine blk_alloc ?_ _)); exact BK103.out⟩, ⟨bl2_ HB.out GE103.out GE114.out⟩⟩
         ·rw [if_neg c30] at H
          have c30b0 := decide_eq_false c30
          clear c30
          have H' := Aside0.mk H
          clear H
          go_wp2
          (try simp only [← hl6_2, ← hl6_3])
          go_roundg k3
          case measure => have := HK1.out; have := HK2.out; have := HK3.out; omega
          case rel => exact ⟨(x6_3), (x7_3), (x9_3), rs_, H', ⟨by have := HK1.out; have := HK2.out; have := HK3.out; omega⟩, ⟨by (try simp only [hl6_1]); (try simp only [hl6_2]); (try simp only [hl6_3]); (with_reducible repeat (first | apply Kd.R_alloc | apply Kd.R_drewN | apply Kd.R_drew)); exact HO_6.out⟩, ⟨by (try simp only [hl6_1]); (try simp only [hl6_2]); (try simp only [hl6_3]); (with_reducible repeat (first | apply Kd.R_alloc | apply Kd.R_drewN | apply Kd.R_drew)); exact HO_7.out⟩, ⟨by (try simp only [hl6_1]); (try simp only [hl6_2]); (try simp only [hl6_3]); (with_reducible repeat (first | refine blk_drewN ?_ _ | refine blk_drew ?_ | refine blk_alloc ?_ _)); exact BK103.out⟩, ⟨bl1_ HB.out GE103.out⟩⟩
      ·replace c28 := Bool.eq_false_iff.mpr c28
       subst c28
       have H1 : (some (x6_2, x7_2)) = some (r1, r2) := by rw [if_neg (show ¬ (false = true) by decide)] at H; exact H
       clear H
       have H := H1
       clear H1
       simp only [Option.some.injEq, Prod.mk.injEq] at H
       obtain ⟨rfl, rfl⟩ := H
       go_wp2
       go_ret2
       exact ⟨_, _, by first | rfl | (simp [errW_none, errW_some] <;> rfl) | (simp [*, errW_none, errW_some] <;> rfl), ra_ HO_6.out, ra_ HO_7.out, bl1_ HB.out GE103.out⟩

end Go.Proofs.YtddaiabilhjcpaaDoor.A
