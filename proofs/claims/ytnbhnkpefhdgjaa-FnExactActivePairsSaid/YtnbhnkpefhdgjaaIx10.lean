/- For functions of the translation: a Lean function each, and that the call of the Go function comes to its answer. Written by this session's own program (myprint.py, over the kit's printer). -/
import Derived.Test.YtnbhnkpefhdgjaaIx0
--compacted
namespace Go.Proofs.Ytnbhnkpefhdgjaa.I
open Go.RowKit Go.Proofs.YtnbhnkpefhdgjaaW.PrintWords Go.Proofs.YtnbhnkpefhdgjaaW.PrintLast Go.Proofs.YtnbhnkpefhdgjaaW.PrintMore
attribute [local go_sem] max2_int min2_int max_two min_two max_three min_three max_four min_four   -- for this text's walks alone
set_option linter.unusedVariables false
set_option linter.unusedSimpArgs false

/-! ### impl_Tree_far: function 62 -/
mutual
def impl_Tree_far.l0 : Nat → Int → List Int → List Int → Int → Int → Int → List (S71) → Option (List Int × List Int)
 | 0, _, _, _, _, _, _, _ => none
 | k + 1, x1, x6, x7, x21, x22, x290000, x290001 => if x22 < x21 then (if 0 ≤ x22 then (if x22 < (x6.length : Int) then (if x22 < (x7.length : Int) then (impl_Tree_far.l0 k x1 (x6.set (x22 : Int).toNat (-1)) (x7.set (x22 : Int).toNat (-1)) x21 (wrap64 (x22 + 1)) x290000 x290001) else (none)) else (none)) else (none)) else (if 0 ≤ x1 then (if x1 < (x6.length : Int) then (impl_Tree_far.l1 k (x6.set (x1 : Int).toNat 0) x7 true x290000 x290001) else (none)) else (none))
def impl_Tree_far.l1 : Nat → List Int → List Int → Bool → Int → List (S71) → Option (List Int × List Int)
 | 0, _, _, _, _, _ => none
 | k + 1, x6, x7, x9, x290000, x290001 => if x9 = true then (impl_Tree_far.l2 k x6 x7 false x290001 (x290001.length : Int) 0 x290000 x290001) else (some (x6, x7))
def impl_Tree_far.l2 : Nat → List Int → List Int → Bool → List (S71) → Int → Int → Int → List (S71) → Option (List Int × List Int)
 | 0, _, _, _, _, _, _, _, _ => none
 | k + 1, x6, x7, x9, x37, x38, x39, x290000, x290001 => if x39 < x38 then (if 0 ≤ x39 then (if x39 < (x37.length : Int) then (impl_Tree_far.l3 k x6 x7 x9 x37 x38 x39 0 x290000 x290001 ((rd_T71 x37 x39).f0) ((rd_T71 x37 x39).f1) ((rd_T71 x37 x39).f2) ((rd_T71 x37 x39).f1) ((rd_T71 x37 x39).f0) ((rd_T71 x37 x39).f0) ((rd_T71 x37 x39).f1) ((rd_T71 x37 x39).f1) ((rd_T71 x37 x39).f0)) else (none)) else (none)) else (impl_Tree_far.l1 k x6 x7 x9 x290000 x290001)
def impl_Tree_far.l3 : Nat → List Int → List Int → Bool → List (S71) → Int → Int → Int → Int → List (S71) → Int → Int → Int → Int → Int → Int → Int → Int → Int → Option (List Int × List Int)
 | 0, _, _, _, _, _, _, _, _, _, _, _, _, _, _, _, _, _, _ => none
 | k + 1, x6, x7, x9, x37, x38, x39, x54, x290000, x290001, x301000, x301001, x301002, x705200, x705201, x705300, x705301, x705302, x705303 => if x54 < 2 then (if x54 = 0 then (if 0 ≤ x705300 then (if x705300 < (x6.length : Int) then (if (rd x6 x705300) ≥ 0 then (if 0 ≤ x705301 then (if x705301 < (x6.length : Int) then (if (rd x6 x705301) < 0 then (if x705301 < (x7.length : Int) then (impl_Tree_far.l3 k (x6.set (x705301 : Int).toNat (wrap64 ((rd x6 x705300) + x301002))) (x7.set (x705301 : Int).toNat x705300) true x37 x38 x39 (wrap64 (x54 + 1)) x290000 x290001 x301000 x301001 x301002 x705200 x705201 x705300 x705301 x705302 x705303) else (none)) else (impl_Tree_far.l3 k x6 x7 x9 x37 x38 x39 (wrap64 (x54 + 1)) x290000 x290001 x301000 x301001 x301002 x705200 x705201 x705300 x705301 x705302 x705303)) else (none)) else (none)) else (impl_Tree_far.l3 k x6 x7 x9 x37 x38 x39 (wrap64 (x54 + 1)) x290000 x290001 x301000 x301001 x301002 x705200 x705201 x705300 x705301 x705302 x705303)) else (none)) else (none)) else (if x54 = 1 then (if 0 ≤ x705302 then (if x705302 < (x6.length : Int) then (if (rd x6 x705302) ≥ 0 then (if 0 ≤ x705303 then (if x705303 < (x6.length : Int) then (if (rd x6 x705303) < 0 then (if x705303 < (x7.length : Int) then (impl_Tree_far.l3 k (x6.set (x705303 : Int).toNat (wrap64 ((rd x6 x705302) + x301002))) (x7.set (x705303 : Int).toNat x705302) true x37 x38 x39 (wrap64 (x54 + 1)) x290000 x290001 x301000 x301001 x301002 x705200 x705201 x705300 x705301 x705302 x705303) else (none)) else (impl_Tree_far.l3 k x6 x7 x9 x37 x38 x39 (wrap64 (x54 + 1)) x290000 x290001 x301000 x301001 x301002 x705200 x705201 x705300 x705301 x705302 x705303)) else (none)) else (none)) else (impl_Tree_far.l3 k x6 x7 x9 x37 x38 x39 (wrap64 (x54 + 1)) x290000 x290001 x301000 x301001 x301002 x705200 x705201 x705300 x705301 x705302 x705303)) else (none)) else (none)) else (none))) else (impl_Tree_far.l2 k x6 x7 x9 x37 x38 (wrap64 (x39 + 1)) x290000 x290001)
end
def impl_Tree_far.f (k : Nat) (a0_0 : Int) (l0_1 : List (S71)) (a1 : Int) : Option (List Int × List Int) := if 0 ≤ a0_0 then (if (a0_0 : Int).toNat ≤ 35184372088832 then ((some (List.replicate (a0_0 : Int).toNat 0 : List Int)).bind fun y290 => (impl_Tree_far.l0 k a1 y290 (List.replicate (a0_0 : Int).toNat 0) (y290.length : Int) 0 a0_0 l0_1)) else (none)) else (none)
theorem impl_Tree_far.mono_l : ∀ k, (∀ y0 y1 y2 y3 y4 y5 y6, LeO (impl_Tree_far.l0 k y0 y1 y2 y3 y4 y5 y6) (impl_Tree_far.l0 (k + 1) y0 y1 y2 y3 y4 y5 y6)) ∧ (∀ y0 y1 y2 y3 y4, LeO (impl_Tree_far.l1 k y0 y1 y2 y3 y4) (impl_Tree_far.l1 (k + 1) y0 y1 y2 y3 y4)) ∧ (∀ y0 y1 y2 y3 y4 y5 y6 y7, LeO (impl_Tree_far.l2 k y0 y1 y2 y3 y4 y5 y6 y7) (impl_Tree_far.l2 (k + 1) y0 y1 y2 y3 y4 y5 y6 y7)) ∧ (∀ y0 y1 y2 y3 y4 y5 y6 y7 y8 y9 y10 y11 y12 y13 y14 y15 y16 y17, LeO (impl_Tree_far.l3 k y0 y1 y2 y3 y4 y5 y6 y7 y8 y9 y10 y11 y12 y13 y14 y15 y16 y17) (impl_Tree_far.l3 (k + 1) y0 y1 y2 y3 y4 y5 y6 y7 y8 y9 y10 y11 y12 y13 y14 y15 y16 y17))
 | 0 => ⟨fun _ _ _ _ _ _ _ r h => by simp [impl_Tree_far.l0] at h, fun _ _ _ _ _ r h => by simp [impl_Tree_far.l1] at h, fun _ _ _ _ _ _ _ _ r h => by simp [impl_Tree_far.l2] at h, fun _ _ _ _ _ _ _ _ _ _ _ _ _ _ _ _ _ _ r h => by simp [impl_Tree_far.l3] at h⟩
 | k + 1 => by
  obtain ⟨ih0, ih1, ih2, ih3⟩ := impl_Tree_far.mono_l k
  refine ⟨?_, ?_, ?_, ?_⟩
  ·intro y0 y1 y2 y3 y4 y5 y6
   unfold impl_Tree_far.l0
   repeat' first
   | (with_reducible exact ih0 _ _ _ _ _ _ _)
   | (with_reducible exact ih1 _ _ _ _ _)
   | (with_reducible exact ih2 _ _ _ _ _ _ _ _)
   | (with_reducible exact ih3 _ _ _ _ _ _ _ _ _ _ _ _ _ _ _ _ _ _)
   | (with_reducible exact LeO.refl _)
   | (with_reducible exact LeO.none _)
   | (with_reducible refine LeO.ite ?_ ?_)
   | (with_reducible refine LeO.bind ?_ (fun _ => ?_))
  ·intro y0 y1 y2 y3 y4
   unfold impl_Tree_far.l1
   repeat' first
   | (with_reducible exact ih0 _ _ _ _ _ _ _)
   | (with_reducible exact ih1 _ _ _ _ _)
   | (with_reducible exact ih2 _ _ _ _ _ _ _ _)
   | (with_reducible exact ih3 _ _ _ _ _ _ _ _ _ _ _ _ _ _ _ _ _ _)
   | (with_reducible exact LeO.refl _)
   | (with_reducible exact LeO.none _)
   | (with_reducible refine LeO.ite ?_ ?_)
   | (with_reducible refine LeO.bind ?_ (fun _ => ?_))
  ·intro y0 y1 y2 y3 y4 y5 y6 y7
   unfold impl_Tree_far.l2
   repeat' first
   | (with_reducible exact ih0 _ _ _ _ _ _ _)
   | (with_reducible exact ih1 _ _ _ _ _)
   | (with_reducible exact ih2 _ _ _ _ _ _ _ _)
   | (with_reducible exact ih3 _ _ _ _ _ _ _ _ _ _ _ _ _ _ _ _ _ _)
   | (with_reducible exact LeO.refl _)
   | (with_reducible exact LeO.none _)
   | (with_reducible refine LeO.ite ?_ ?_)
   | (with_reducible refine LeO.bind ?_ (fun _ => ?_))
  ·intro y0 y1 y2 y3 y4 y5 y6 y7 y8 y9 y10 y11 y12 y13 y14 y15 y16 y17
   unfold impl_Tree_far.l3
   repeat' first
   | (with_reducible exact ih0 _ _ _ _ _ _ _)
   | (with_reducible exact ih1 _ _ _ _ _)
   | (with_reducible exact ih2 _ _ _ _ _ _ _ _)
   | (with_reducible exact ih3 _ _ _ _ _ _ _ _ _ _ _ _ _ _ _ _ _ _)
   | (with_reducible exact LeO.refl _)
   | (with_reducible exact LeO.none _)
   | (with_reducible refine LeO.ite ?_ ?_)
   | (with_reducible refine LeO.bind ?_ (fun _ => ?_))
theorem impl_Tree_far.mono : ∀ a0 a1 a2 k, LeO (impl_Tree_far.f k a0 a1 a2) (impl_Tree_far.f (k + 1) a0 a1 a2) := by
 intro a0 a1 a2 k
 obtain ⟨ih0, ih1, ih2, ih3⟩ := impl_Tree_far.mono_l k
 unfold impl_Tree_far.f
 repeat' first
   | (with_reducible exact ih0 _ _ _ _ _ _ _)
   | (with_reducible exact ih1 _ _ _ _ _)
   | (with_reducible exact ih2 _ _ _ _ _ _ _ _)
   | (with_reducible exact ih3 _ _ _ _ _ _ _ _ _ _ _ _ _ _ _ _ _ _)
   | (with_reducible exact LeO.refl _)
   | (with_reducible exact LeO.none _)
   | (with_reducible refine LeO.ite ?_ ?_)
   | (with_reducible refine LeO.bind ?_ (fun _ => ?_))
def impl_Tree_far.T1 : Bool × List (List Nat × List Nat) := (true, [([], []), ([0], [0]), ([1, 1], [1]), ([], []), ([3], [3]), ([4, 4], [4]), ([2, 0, 1, 2], [2]), ([5, 6, 0, 1, 2, 3, 4, 5, 6], [5])])
def impl_Tree_far.B1 : List Nat := [0, 1, 3, 0, 8, 24, 7, 127]
theorem impl_Tree_far.tab1 : rtab .any (opsOf Try.f62 1) = impl_Tree_far.T1 := by kernel_rfl
theorem impl_Tree_far.bits1 : waitsOk impl_Tree_far.T1.2 impl_Tree_far.B1 = true := by kernel_rfl
def impl_Tree_far.T18 : Bool × List (List Nat × List Nat) := (true, [([], []), ([], []), ([1], [1]), ([], []), ([], []), ([4], [4]), ([], []), ([], []), ([7], [7]), ([6, 8], [6, 8]), ([9], [9]), ([], []), ([11], [11]), ([10, 12], [10, 12]), ([], []), ([14], [14]), ([0, 2, 0, 1, 2, 6, 7, 8, 9, 10, 11, 12, 13], [0, 2]), ([16, 13, 0, 1, 2, 6, 7, 8, 9, 10, 11, 12, 13], [13, 16]), ([3, 5, 0, 1, 2, 3, 4, 5, 6, 7, 8, 9, 10, 11, 12, 13, 14, 15, 16, 17], [3, 5]), ([18, 15, 17, 0, 1, 2, 3, 4, 5, 6, 7, 8, 9, 10, 11, 12, 13, 14, 15, 16, 17], [15, 18]), ([19, 0, 1, 2, 3, 4, 5, 6, 7, 8, 9, 10, 11, 12, 13, 14, 15, 16, 17, 18, 19], [])])
def impl_Tree_far.B18 : List Nat := [0, 0, 2, 0, 0, 16, 0, 0, 128, 448, 960, 0, 2048, 8128, 0, 16384, 16327, 81863, 262143, 524287, 1048575]
theorem impl_Tree_far.tab18 : rtab .any (opsOf Try.f62 18) = impl_Tree_far.T18 := by kernel_rfl
theorem impl_Tree_far.bits18 : waitsOk impl_Tree_far.T18.2 impl_Tree_far.B18 = true := by kernel_rfl
set_option maxHeartbeats 8000000 in
set_option maxRecDepth 100000 in
theorem impl_Tree_far.calls (k : Nat) (a0_0 : Int) (A0_1 : Option Addr) (c0_1 : Nat) (l0_1 : List (S71)) (a1 : Int) (r1 : List Int) (r2 : List Int) (w : World) (hr0_1 : Kd.C k71 w A0_1 l0_1.length l0_1) (hc0_1 : l0_1.length ≤ c0_1) (h : impl_Tree_far.f k a0_0 l0_1 a1 = some (r1, r2)) :
  Calls Try.prog 62 #[.agg #[.int .i64 a0_0, .slice A0_1 l0_1.length c0_1], .int .i64 a1] w fun e w' => ∃ v0_ v1_ : Value, e = .returned (.tuple #[v0_, v1_]) ∧ Kd.R (Kd.int .i64) 2 w' w.heap.size (fun k_ => some k_ ≠ (v1_ : Value).ownBlock) v0_ r1 ∧ Kd.R (Kd.int .i64) 2 w' w.heap.size (fun k_ => some k_ ≠ (v0_ : Value).ownBlock) v1_ r2 ∧ Below w.heap.size w w' := by
 have hu29 := Try.underlying29
 have hu71 := Try.underlying71
 have hu111 := Try.underlying111
 have hu112 := Try.underlying112
 have HR0_1 := Aside0.mk hr0_1
 have HC0_1 := Aside0.mk hc0_1
 clear hr0_1 hc0_1
 have HB := Aside0.mk (Below.refl w.heap.size w)
 have H : (if 0 ≤ a0_0 then (if (a0_0 : Int).toNat ≤ 35184372088832 then ((some (List.replicate (a0_0 : Int).toNat 0 : List Int)).bind fun y290 => (impl_Tree_far.l0 k a1 y290 (List.replicate (a0_0 : Int).toNat 0) (y290.length : Int) 0 a0_0 l0_1)) else (none)) else (none)) = some (r1, r2) := h
 clear h
 by_cases c3 : 0 ≤ a0_0
 rotate_left
 ·exact nope_ c3 H
 rw [if_pos c3] at H
 have c3b0 := eq_true c3
 have c3b1 := decide_eq_true c3
 clear c3
 by_cases c4 : (a0_0 : Int).toNat ≤ 35184372088832
 rotate_left
 ·exact nope_ c4 H
 rw [if_pos c4] at H
 have c4b0 := eq_true c4
 have c4b1 := decide_eq_true c4
 clear c4
 obtain ⟨y290, hy290⟩ : ∃ y_ : List Int, y_ = (List.replicate (a0_0 : Int).toNat 0) := ⟨_, rfl⟩
 replace H : (impl_Tree_far.l0 k a1 y290 (List.replicate (a0_0 : Int).toNat 0) (y290.length : Int) 0 a0_0 l0_1) = some (r1, r2) := yh_ H hy290
 have Ny290 := Aside0.mk hy290
 clear hy290
 obtain ⟨y293, hy293⟩ : ∃ y_ : List Int, y_ = (List.replicate (a0_0 : Int).toNat 0) := ⟨_, rfl⟩
 replace H : (impl_Tree_far.l0 k a1 y290 y293 (y290.length : Int) 0 a0_0 l0_1) = some (r1, r2) := yh_ H hy293
 have Ny293 := Aside0.mk hy293
 clear hy293
 have H' := Aside0.mk H
 clear H
 go_enter Try.func62, Try.ntmps62
 try go_wp2_with (first | ((with_reducible refine gate_dst (N := 2) rfl ?_); refine box_event ?hg (N := 2) ?hd (cs := #[.int .i64 a0_0, .slice A0_1 l0_1.length c0_1]) (t := 29) ?hr ?_; (case hd => rfl); (case hg => rfl); (case hr => first | (go_simp; done) | (go_simp; rfl)); intro gb289 hg w5 hbox hb; have n0_ := Aside0.mk (below_step (bl0_ HB.out) hb); have n1_ := Aside0.mk (hbox); have n2_ := Aside0.mk ((by rw [hg]; exact (below_size (bl0_ HB.out)) : w.heap.size ≤ gb289)); have n3_ := Aside0.mk ((by rw [hg]; exact (below_size (bl0_ HB.out)) : w.heap.size ≤ gb289)); clear HB; have HB := n0_; have BK289 := n1_; have GW289 := n2_; have GE289 := n3_; clear n0_ n1_ n2_ n3_; clear hb hbox hg))
 have n0_ := Aside0.mk (blk_drew BK289.out)
 have n1_ := Aside0.mk (below_drew1 HB.out)
 clear BK289
 clear HB
 have BK289 := n0_
 have HB := n1_
 clear n0_ n1_
 refine start_ (n := 8) (S := fun w' => w'.cell? ⟨gb289, 0, none⟩ = some (.int .i64 a0_0) ∧ w'.cell? ⟨gb289, 1, none⟩ = some (.slice A0_1 l0_1.length c0_1)) (ds := []) #[false,false,false,false,false,false,false,false] (by kernel_rfl) rfl rfl ⟨(blk_cell BK289.out 0).trans rfl, (blk_cell BK289.out 1).trans rfl⟩ (fun hHeld => ?_); refine with_tabW impl_Tree_far.tab1 impl_Tree_far.bits1 (fun HT_ HW_ => ?_)
 generalize w5.drew = w6 at BK289 HB hHeld ⊢
 refine puz_ 0 (some 14) #[true,false,false,false,false,false,false,false] rfl rfl (any_of HT_.out (by kernel_rfl)) ?_
 refine puz_ 3 (some 17) #[true,false,false,true,false,false,false,false] rfl rfl (any_of HT_.out (by kernel_rfl)) ?_
 refine tkz_ 1 (some 15) #[true,true,false,true,false,false,false,false] rfl rfl (take_ofW HT_.out HW_.out (by kernel_rfl)) hHeld ?_
 refine tkz_ 4 (some 18) #[true,true,false,true,true,false,false,false] rfl rfl (take_ofW HT_.out HW_.out (by kernel_rfl)) hHeld ?_
 refine join_ (σ := Value × Value) 1 #[true,true,true,true,true,true,true,false] (fun s_ => [(16, s_.1), (19, s_.2), (6, s_.1)]) (fun s_ w' => (w'.cell? ⟨gb289, 0, none⟩ = some (.int .i64 a0_0) ∧ w'.cell? ⟨gb289, 1, none⟩ = some (.slice A0_1 l0_1.length c0_1)) ∧ (Kd.R (Kd.int .i64) 2 w' w.heap.size (fun k_ => some k_ ≠ (s_.2 : Value).ownBlock) s_.1 y290) ∧ (Kd.R (Kd.int .i64) 2 w' w.heap.size (fun k_ => some k_ ≠ (s_.1 : Value).ownBlock) s_.2 y293) ∧ (w'.heap[gb289]? = some (.cells #[.int .i64 a0_0, .slice A0_1 l0_1.length c0_1] 29 (0, 0))) ∧ (Below w.heap.size w w')) ?_ ?_
 rotate_left
 ·intro hCont
  refine two_ (i := 2) (j := 5) (Ni := some 16) (Nj := some 19) #[true,true,true,true,true,false,false,false] #[true,true,false,true,true,true,false,false] rfl rfl rfl rfl (two_of HT_.out (by kernel_rfl)) (by decide) (by decide) (fun K hK => ?_) (fun K hK => ?_)
  ·skip
   refine Kd.R_make_step (Kd.int .i64) _ 2 (by rfl) (N := 16) rfl 36 _ _ rfl a0_0 rfl rfl Try.underlying36 (.int .i64 0) 8 info2 rfl (by decide) (by omega) 0 (ok := fun _ => True) (okp := fun _ => True) rfl (fun _ hk => hk) trivial (od_) (Nat.le_trans (Nat.mul_le_mul_right _ (od_ : a0_0.toNat ≤ 35184372088832)) (by omega)) (Below.refl _ _) (Nat.le_refl _) ?_
   intro v291 w7 ho8 hb hg_ hnew_
   clear hg_ hnew_
   (first | rw [← Ny290.out] at ho8 | (simp only [Int.reduceToNat] at ho8; rw [← Ny290.out] at ho8))
   have n0_ := Aside0.mk (Kd.R_lower ho8 (below_size (bl1_ HB.out GE289.out)))
   have n1_ := Aside0.mk (blk_below (g := gb289) (o := .cells #[.int .i64 a0_0, .slice A0_1 l0_1.length c0_1] 29 (0, 0)) (bk_ BK289.out) hb)
   have n2_ := Aside0.mk (below_step (bl1_ HB.out GE289.out) hb)
   clear BK289
   clear HB
   have HO292 := n0_
   have BK289 := n1_
   have HB := n2_
   clear n0_ n1_ n2_
   clear hb ho8
   refine hK.out _ _ ⟨(blk_cell BK289.out 0).trans rfl, (blk_cell BK289.out 1).trans rfl⟩ (fun hHeld => ?_)
   clear hK K
   refine norm_ (a' := ?_) ?_ ?_
   rotate_left
   ·show Act.put _ (some 16) _ = _
    simp only [Act.put, List.setIfInBounds_toArray, List.set_cons_zero, List.set_cons_succ, i64_w, i32_w]
    rfl
   refine puz_ 6 (some 6) #[true,true,true,true,true,false,true,false] rfl rfl (any_of HT_.out (by kernel_rfl)) ?_
   refine one_ (i := 5) (N := some 19) #[true,true,true,true,true,true,true,false] rfl rfl (one_of HT_.out (by kernel_rfl)) (by decide) (fun K hK => ?_)
   refine Kd.R_make_step (Kd.int .i64) _ 2 (by rfl) (N := 19) rfl 36 _ _ rfl a0_0 rfl rfl Try.underlying36 (.int .i64 0) 8 info2 rfl (by decide) (by omega) 0 (ok := fun _ => True) (okp := fun _ => True) rfl (fun _ hk => hk) trivial (od_) (Nat.le_trans (Nat.mul_le_mul_right _ (od_ : a0_0.toNat ≤ 35184372088832)) (by omega)) (Below.refl _ _) (Nat.le_refl _) ?_
   intro v294 w9 ho10 hb hg_ hnew_
   clear hg_ hnew_
   (first | rw [← Ny293.out] at ho10 | (simp only [Int.reduceToNat] at ho10; rw [← Ny293.out] at ho10))
   have n0_ := Aside0.mk (Kd.R_elder' (ra_ HO292.out) (Kd.R_base ho10) hb)
   have n1_ := Aside0.mk (Kd.R_lower (Kd.R_new' ho10 (Kd.R_lt (ra_ HO292.out))) (below_size (bl1_ HB.out GE289.out)))
   have n2_ := Aside0.mk (blk_below (g := gb289) (o := .cells #[.int .i64 a0_0, .slice A0_1 l0_1.length c0_1] 29 (0, 0)) (bk_ BK289.out) hb)
   have n3_ := Aside0.mk (below_step (bl1_ HB.out GE289.out) hb)
   clear HO292
   clear BK289
   clear HB
   have HO292 := n0_
   have HO295 := n1_
   have BK289 := n2_
   have HB := n3_
   clear n0_ n1_ n2_ n3_
   clear hb ho10
   refine hK.out _ _ ⟨(blk_cell BK289.out 0).trans rfl, (blk_cell BK289.out 1).trans rfl⟩ (fun hHeld => ?_)
   clear hK K
   refine norm_ (a' := ?_) ?_ ?_
   rotate_left
   ·show Act.put _ (some 19) _ = _
    simp only [Act.put, List.setIfInBounds_toArray, List.set_cons_zero, List.set_cons_succ, i64_w, i32_w]
    rfl
   exact norm_ (by simp only [putAll, Act.put, List.setIfInBounds_toArray, List.set_cons_zero, List.set_cons_succ]) (hCont (v291, v294) _ ⟨hHeld, (by (with_reducible repeat (first | apply Kd.R_alloc | apply Kd.R_drewN | apply Kd.R_drew)); exact Kd.R_mono HO292.out (fun _ hk => hk.2)), (by (with_reducible repeat (first | apply Kd.R_alloc | apply Kd.R_drewN | apply Kd.R_drew)); exact Kd.R_mono HO295.out (fun _ hk => hk.2)), (bk_ BK289.out), (bl1_ HB.out GE289.out)⟩)
  ·skip
   refine Kd.R_make_step (Kd.int .i64) _ 2 (by rfl) (N := 19) rfl 36 _ _ rfl a0_0 rfl rfl Try.underlying36 (.int .i64 0) 8 info2 rfl (by decide) (by omega) 0 (ok := fun _ => True) (okp := fun _ => True) rfl (fun _ hk => hk) trivial (od_) (Nat.le_trans (Nat.mul_le_mul_right _ (od_ : a0_0.toNat ≤ 35184372088832)) (by omega)) (Below.refl _ _) (Nat.le_refl _) ?_
   intro v294 w7 ho8 hb hg_ hnew_
   clear hg_ hnew_
   (first | rw [← Ny293.out] at ho8 | (simp only [Int.reduceToNat] at ho8; rw [← Ny293.out] at ho8))
   have n0_ := Aside0.mk (Kd.R_lower ho8 (below_size (bl1_ HB.out GE289.out)))
   have n1_ := Aside0.mk (blk_below (g := gb289) (o := .cells #[.int .i64 a0_0, .slice A0_1 l0_1.length c0_1] 29 (0, 0)) (bk_ BK289.out) hb)
   have n2_ := Aside0.mk (below_step (bl1_ HB.out GE289.out) hb)
   clear BK289
   clear HB
   have HO295 := n0_
   have BK289 := n1_
   have HB := n2_
   clear n0_ n1_ n2_
   clear hb ho8
   refine hK.out _ _ ⟨(blk_cell BK289.out 0).trans rfl, (blk_cell BK289.out 1).trans rfl⟩ (fun hHeld => ?_)
   clear hK K
   refine norm_ (a' := ?_) ?_ ?_
   rotate_left
   ·show Act.put _ (some 19) _ = _
    simp only [Act.put, List.setIfInBounds_toArray, List.set_cons_zero, List.set_cons_succ, i64_w, i32_w]
    rfl
   refine one_ (i := 2) (N := some 16) #[true,true,true,true,true,true,false,false] rfl rfl (one_of HT_.out (by kernel_rfl)) (by decide) (fun K hK => ?_)
   refine Kd.R_make_step (Kd.int .i64) _ 2 (by rfl) (N := 16) rfl 36 _ _ rfl a0_0 rfl rfl Try.underlying36 (.int .i64 0) 8 info2 rfl (by decide) (by omega) 0 (ok := fun _ => True) (okp := fun _ => True) rfl (fun _ hk => hk) trivial (od_) (Nat.le_trans (Nat.mul_le_mul_right _ (od_ : a0_0.toNat ≤ 35184372088832)) (by omega)) (Below.refl _ _) (Nat.le_refl _) ?_
   intro v291 w9 ho10 hb hg_ hnew_
   clear hg_ hnew_
   (first | rw [← Ny290.out] at ho10 | (simp only [Int.reduceToNat] at ho10; rw [← Ny290.out] at ho10))
   have n0_ := Aside0.mk (Kd.R_elder' (ra_ HO295.out) (Kd.R_base ho10) hb)
   have n1_ := Aside0.mk (Kd.R_lower (Kd.R_new' ho10 (Kd.R_lt (ra_ HO295.out))) (below_size (bl1_ HB.out GE289.out)))
   have n2_ := Aside0.mk (blk_below (g := gb289) (o := .cells #[.int .i64 a0_0, .slice A0_1 l0_1.length c0_1] 29 (0, 0)) (bk_ BK289.out) hb)
   have n3_ := Aside0.mk (below_step (bl1_ HB.out GE289.out) hb)
   clear HO295
   clear BK289
   clear HB
   have HO295 := n0_
   have HO292 := n1_
   have BK289 := n2_
   have HB := n3_
   clear n0_ n1_ n2_ n3_
   clear hb ho10
   refine hK.out _ _ ⟨(blk_cell BK289.out 0).trans rfl, (blk_cell BK289.out 1).trans rfl⟩ (fun hHeld => ?_)
   clear hK K
   refine norm_ (a' := ?_) ?_ ?_
   rotate_left
   ·show Act.put _ (some 16) _ = _
    simp only [Act.put, List.setIfInBounds_toArray, List.set_cons_zero, List.set_cons_succ, i64_w, i32_w]
    rfl
   refine puz_ 6 (some 6) #[true,true,true,true,true,true,true,false] rfl rfl (any_of HT_.out (by kernel_rfl)) ?_
   exact norm_ (by simp only [putAll, Act.put, List.setIfInBounds_toArray, List.set_cons_zero, List.set_cons_succ]) (hCont (v291, v294) _ ⟨hHeld, (by (with_reducible repeat (first | apply Kd.R_alloc | apply Kd.R_drewN | apply Kd.R_drew)); exact Kd.R_mono HO292.out (fun _ hk => hk.2)), (by (with_reducible repeat (first | apply Kd.R_alloc | apply Kd.R_drewN | apply Kd.R_drew)); exact Kd.R_mono HO295.out (fun _ hk => hk.2)), (bk_ BK289.out), (bl1_ HB.out GE289.out)⟩)
 rintro ⟨v291, v294⟩ w11 ⟨hS_, h0_, h1_, h2_, h3_⟩
 have n0_ : Aside0 (Kd.R (Kd.int .i64) 2 w11 w.heap.size (fun k_ => some k_ ≠ (v294 : Value).ownBlock) v291 y290) := ⟨h0_⟩
 have n1_ : Aside0 (Kd.R (Kd.int .i64) 2 w11 w.heap.size (fun k_ => some k_ ≠ (v291 : Value).ownBlock) v294 y293) := ⟨h1_⟩
 have n2_ : Aside0 (w11.heap[gb289]? = some (.cells #[.int .i64 a0_0, .slice A0_1 l0_1.length c0_1] 29 (0, 0))) := ⟨h2_⟩
 have n3_ : Aside0 (Below w.heap.size w w11) := ⟨h3_⟩
 clear BK289
 clear HB
 clear h0_ h1_ h2_ h3_
 have HO292 := n0_
 have HO295 := n1_
 have BK289 := n2_
 have HB := n3_
 clear n0_ n1_ n2_ n3_
 have hHeld : w11.cell? ⟨gb289, 0, none⟩ = some (.int .i64 a0_0) ∧ w11.cell? ⟨gb289, 1, none⟩ = some (.slice A0_1 l0_1.length c0_1) := hS_
 refine norm_ (a' := ?_) ?_ ?_
 rotate_left
 ·simp only [putAll, Act.put, List.setIfInBounds_toArray, List.set_cons_zero, List.set_cons_succ]
  rfl
 refine puz_ 7 (some 7) #[true,true,true,true,true,true,true,true] rfl rfl (any_of HT_.out (by kernel_rfl)) ?_
 refine done_ (done_of HT_.out (by kernel_rfl)) ?_
 obtain ⟨Ao12, co12, eo12⟩ := Kd.R_slice HO292.out
 subst eo12
 try go_wp2
 go_loopg [22] k (fun kq v22 w' => ∃ (x6_1 : List Int) (x7_1 : List Int) (x22_1 : Int), v22 = .int .i64 x22_1 ∧ Aside0 (impl_Tree_far.l0 kq a1 x6_1 x7_1 (y290.length : Int) x22_1 a0_0 l0_1 = some (r1, r2)) ∧ Aside0 (kq ≤ k) ∧ Aside0 (Kd.R (Kd.int .i64) 2 w' w.heap.size (fun k_ => some k_ ≠ (v294 : Value).ownBlock) (.slice Ao12 y290.length co12) x6_1) ∧ Aside0 (Kd.R (Kd.int .i64) 2 w' w.heap.size (fun k_ => some k_ ≠ ((.slice Ao12 y290.length co12) : Value).ownBlock) v294 x7_1) ∧ Aside0 (w'.heap[gb289]? = some (.cells #[.int .i64 a0_0, (.slice A0_1 l0_1.length c0_1)] 29 (0, 0))) ∧ Aside0 (Below w.heap.size w w'))
 case atStart => exact ⟨(y290), (y293), (0), rs_, H', ⟨Nat.le_refl _⟩, ⟨ra_ HO292.out⟩, ⟨ra_ HO295.out⟩, ⟨bk_ BK289.out⟩, ⟨bl1_ HB.out GE289.out⟩⟩
 case round =>
  clear H'
  try clear p2
  try clear c3
  try clear c3b0
  try clear c3b1
  try clear c4
  try clear c4b0
  try clear c4b1
  try clear c6
  obtain ⟨x6_1, x7_1, x22_1, rfl, HA, HK1, HO_6, HO_7, BK289, HB⟩ := hrel
  have hl6_1 := (Kd.R_reads' HO_6.out).1
  rw [hl6_1] at HO_6
  (try simp only [hl6_1])
  (try simp only [hl6_1] at BK289)
  (try simp only [hl6_1] at HO_7)
  cases gk with
  | zero => exact absurd HA.out (by simp [impl_Tree_far.l0])
  | succ k1 =>
   have H := HA.out
   clear HA
   simp only [impl_Tree_far.l0] at H
   by_cases c13 : x22_1 < (y290.length : Int)
   ·rw [if_pos c13] at H
    have c13b0 := decide_eq_true c13
    (try (have c13b0_hl6_1 := c13b0; simp only [hl6_1] at c13b0_hl6_1))
    clear c13
    by_cases c14 : 0 ≤ x22_1
    rotate_left
    ·exact nope_ c14 H
    rw [if_pos c14] at H
    have c14b0 := decide_eq_true c14
    clear c14
    by_cases c15 : x22_1 < (x6_1.length : Int)
    rotate_left
    ·exact nope_ c15 H
    rw [if_pos c15] at H
    have c15b0 := decide_eq_true c15
    clear c15
    obtain ⟨y296, hy296⟩ : ∃ y_ : List Int, y_ = (x6_1.set (x22_1 : Int).toNat (-1)) := ⟨_, rfl⟩
    replace H : (if x22_1 < (x7_1.length : Int) then (impl_Tree_far.l0 k1 a1 y296 (x7_1.set (x22_1 : Int).toNat (-1)) (y290.length : Int) (wrap64 (x22_1 + 1)) a0_0 l0_1) else (none)) = some (r1, r2) := yh_ H hy296
    have Ny296 := Aside0.mk hy296
    clear hy296
    by_cases c17 : x22_1 < (x7_1.length : Int)
    rotate_left
    ·exact nope_ c17 H
    rw [if_pos c17] at H
    have c17b0 := decide_eq_true c17
    clear c17
    obtain ⟨y297, hy297⟩ : ∃ y_ : List Int, y_ = (x7_1.set (x22_1 : Int).toNat (-1)) := ⟨_, rfl⟩
    replace H : (impl_Tree_far.l0 k1 a1 y296 y297 (y290.length : Int) (wrap64 (x22_1 + 1)) a0_0 l0_1) = some (r1, r2) := yh_ H hy297
    have Ny297 := Aside0.mk hy297
    clear hy297
    have H' := Aside0.mk H
    clear H
    have p16 : 0 ≤ (x22_1 : Int) := od_
    have q16 : (x22_1 : Int) < ((x6_1.length : Int) : Int) := od_
    obtain ⟨go16, co16, eo16, gb16, gl16, cl16, HG16⟩ := Kd.R_form HO_6.out (by omega)
    (first | cases eo16 | (injection eo16 with ea_ en_ ec_; (first | subst ea_ | (injection ea_ with ea_; subst ea_)); subst ec_; clear en_))
    have GB16 := Aside0.mk gb16
    have GG16 := Aside0.mk HG16
    clear gb16 gl16 HG16
    obtain ⟨hx16_0, hf16_0⟩ := Kd.R_celln 0 HO_6.out (x22_1 : Int) p16 q16
    replace p16 := eq_true p16
    replace q16 := eq_true q16
    have HP19 := Kd.R_putg HO_6.out (x22_1 : Int) (-1)
    go_wp2_with (first | ((with_reducible refine gate_store (t := 2) (p := 29) rfl ?_); refine store_event (t := 2) (p := 29) (v := ?vo_w20) (w1 := (wr.setCell ⟨go16, (x22_1 : Int).toNat, none⟩ (.int .i64 (-1)))) ?hg ?ho ?hn ?hr ?_; (case ho => rfl); (case hg => rfl); (case hn => rfl); (case hr => first | (go_simp; done) | (go_simp; rfl)); intro w20 hw; have hg : wr.grownBy w20 (some go16) := (by rw [hw]; exact HP19.2); have hp_ : Kd.R (Kd.int .i64) 2 w20 w.heap.size (fun k_ => some k_ ≠ (v294 : Value).ownBlock) (.slice (some ⟨go16, 0, none⟩) x6_1.length co12) y296 := (by rw [hw, Ny296.out]; exact HP19.1); clear HP19; have n0_ := Aside0.mk (hp_); have n1_ := Aside0.mk (Kd.R_after (v := (.slice (some ⟨go16, 0, none⟩) x6_1.length co12)) (v1 := (.slice (some ⟨go16, 0, none⟩) x6_1.length co12)) (ok := (fun _ => True)) (by (with_reducible repeat (first | apply Kd.R_alloc | apply Kd.R_drewN | apply Kd.R_drew)); exact Kd.R_mono HO_7.out (fun _ hk => ⟨trivial, hk⟩)) hg (.inl rfl)); have n2_ := Aside0.mk (blk_grown (g := gb289) (o := .cells #[.int .i64 a0_0, .slice A0_1 l0_1.length c0_1] 29 (0, 0)) (bk_ BK289.out) hg (Kd.R_ne HO_6.out BK289.out (by decide))); have n3_ := Aside0.mk ((by rw [hw]; exact below_set (HB.out) GB16.out : Below w.heap.size w w20)); clear HO_6; clear HO_7; clear BK289; clear HB; have HO_6 := n0_; have HO_7 := n1_; have BK289 := n2_; have HB := n3_; clear n0_ n1_ n2_ n3_; clear hg hw hp_; have p18 : 0 ≤ (x22_1 : Int) := od_; have q18 : (x22_1 : Int) < ((x7_1.length : Int) : Int) := od_; obtain ⟨go18, co18, eo18, gb18, gl18, cl18, HG18⟩ := Kd.R_form HO_7.out (by omega); (first | cases eo18 | (injection eo18 with ea_ en_ ec_; (first | subst ea_ | (injection ea_ with ea_; subst ea_)); subst ec_; clear en_)); have GB18 := Aside0.mk gb18; have GG18 := Aside0.mk HG18; clear gb18 gl18 HG18; obtain ⟨hx18_0, hf18_0⟩ := Kd.R_celln 0 HO_7.out (x22_1 : Int) p18 q18; replace p18 := eq_true p18; replace q18 := eq_true q18; have n_ := Aside0.mk (Kd.R_mono (ok' := (fun k_ => some k_ ≠ (.slice (some ⟨go16, 0, none⟩) x6_1.length co12 : Value).ownBlock)) HO_7.out (fun k_ hk => hk.2)); clear HO_7; have HO_7 := n_; clear n_; obtain ⟨hy21_, hz21_⟩ := Kd.R_celln 0 HO_7.out (x22_1 : Int) (od_) (od_); have HP21 := Kd.R_putg HO_7.out (x22_1 : Int) (-1)) | ((with_reducible refine gate_store (t := 2) (p := 30) rfl ?_); refine store_event (t := 2) (p := 30) (v := ?vo_w22) (w1 := (w20.setCell ⟨go18, (x22_1 : Int).toNat, none⟩ (.int .i64 (-1)))) ?hg ?ho ?hn ?hr ?_; (case ho => rfl); (case hg => rfl); (case hn => rfl); (case hr => first | (go_simp; done) | (go_simp; rfl)); intro w22 hw; have hg : w20.grownBy w22 (some go18) := (by rw [hw]; exact HP21.2); have hp_ : Kd.R (Kd.int .i64) 2 w22 w.heap.size (fun k_ => some k_ ≠ (.slice (some ⟨go16, 0, none⟩) x6_1.length co12 : Value).ownBlock) (.slice (some ⟨go18, 0, none⟩) x7_1.length co18) y297 := (by rw [hw, Ny297.out]; exact HP21.1); clear HP21; have n0_ := Aside0.mk (Kd.R_after (v := (.slice (some ⟨go18, 0, none⟩) x7_1.length co18)) (v1 := (.slice (some ⟨go18, 0, none⟩) x7_1.length co18)) (ok := (fun _ => True)) (by (with_reducible repeat (first | apply Kd.R_alloc | apply Kd.R_drewN | apply Kd.R_drew)); exact Kd.R_mono HO_6.out (fun _ hk => ⟨trivial, hk⟩)) hg (.inl rfl)); have n1_ := Aside0.mk (hp_); have n2_ := Aside0.mk (blk_grown (g := gb289) (o := .cells #[.int .i64 a0_0, .slice A0_1 l0_1.length c0_1] 29 (0, 0)) (bk_ BK289.out) hg (Kd.R_ne HO_7.out BK289.out (by decide))); have n3_ := Aside0.mk ((by rw [hw]; exact below_set (HB.out) GB18.out : Below w.heap.size w w22)); clear HO_6; clear HO_7; clear BK289; clear HB; have HO_6 := n0_; have HO_7 := n1_; have BK289 := n2_; have HB := n3_; clear n0_ n1_ n2_ n3_; clear hg hw hp_))
    (try simp only [← hl6_1])
    go_roundg k1
    case measure => have := HK1.out; omega
    case rel => exact ⟨(y296), (y297), (wrap64 (x22_1 + 1)), rs_, H', ⟨by have := HK1.out; omega⟩, ⟨by (try simp only [hl6_1]); (with_reducible repeat (first | apply Kd.R_alloc | apply Kd.R_drewN | apply Kd.R_drew)); exact Kd.R_mono HO_6.out (fun _ hk => hk.2)⟩, ⟨by (try simp only [hl6_1]); (with_reducible repeat (first | apply Kd.R_alloc | apply Kd.R_drewN | apply Kd.R_drew)); exact HO_7.out⟩, ⟨by (try simp only [hl6_1]); (with_reducible repeat (first | refine blk_drewN ?_ _ | refine blk_drew ?_ | refine blk_alloc ?_ _)); exact BK289.out⟩, ⟨bl1_ HB.out GE289.out⟩⟩
   ·rw [if_neg c13] at H
    have c13b0 := decide_eq_false c13
    (try (have c13b0_hl6_1 := c13b0; simp only [hl6_1] at c13b0_hl6_1))
    clear c13
    by_cases c23 : 0 ≤ a1
    rotate_left
    ·exact nope_ c23 H
    rw [if_pos c23] at H
    have c23b0 := decide_eq_true c23
    clear c23
    by_cases c24 : a1 < (x6_1.length : Int)
    rotate_left
    ·exact nope_ c24 H
    rw [if_pos c24] at H
    have c24b0 := decide_eq_true c24
    clear c24
    obtain ⟨y298, hy298⟩ : ∃ y_ : List Int, y_ = (x6_1.set (a1 : Int).toNat 0) := ⟨_, rfl⟩
    replace H : (impl_Tree_far.l1 k1 y298 x7_1 true a0_0 l0_1) = some (r1, r2) := yh_ H hy298
    have Ny298 := Aside0.mk hy298
    clear hy298
    have H' := Aside0.mk H
    clear H
    have p25 : 0 ≤ (a1 : Int) := od_
    have q25 : (a1 : Int) < ((x6_1.length : Int) : Int) := od_
    obtain ⟨go25, co25, eo25, gb25, gl25, cl25, HG25⟩ := Kd.R_form HO_6.out (by omega)
    (first | cases eo25 | (injection eo25 with ea_ en_ ec_; (first | subst ea_ | (injection ea_ with ea_; subst ea_)); subst ec_; clear en_))
    have GB25 := Aside0.mk gb25
    have GG25 := Aside0.mk HG25
    clear gb25 gl25 HG25
    obtain ⟨hx25_0, hf25_0⟩ := Kd.R_celln 0 HO_6.out (a1 : Int) p25 q25
    replace p25 := eq_true p25
    replace q25 := eq_true q25
    have HP26 := Kd.R_putg HO_6.out (a1 : Int) 0
    go_wp2_with (first | ((with_reducible refine gate_store (t := 2) (p := 34) rfl ?_); refine store_event (t := 2) (p := 34) (v := ?vo_w27) (w1 := (wr.setCell ⟨go25, (a1 : Int).toNat, none⟩ (.int .i64 0))) ?hg ?ho ?hn ?hr ?_; (case ho => rfl); (case hg => rfl); (case hn => rfl); (case hr => first | (go_simp; done) | (go_simp; rfl)); intro w27 hw; have hg : wr.grownBy w27 (some go25) := (by rw [hw]; exact HP26.2); have hp_ : Kd.R (Kd.int .i64) 2 w27 w.heap.size (fun k_ => some k_ ≠ (v294 : Value).ownBlock) (.slice (some ⟨go25, 0, none⟩) x6_1.length co12) y298 := (by rw [hw, Ny298.out]; exact HP26.1); clear HP26; have n0_ := Aside0.mk (hp_); have n1_ := Aside0.mk (Kd.R_after (v := (.slice (some ⟨go25, 0, none⟩) x6_1.length co12)) (v1 := (.slice (some ⟨go25, 0, none⟩) x6_1.length co12)) (ok := (fun _ => True)) (by (with_reducible repeat (first | apply Kd.R_alloc | apply Kd.R_drewN | apply Kd.R_drew)); exact Kd.R_mono HO_7.out (fun _ hk => ⟨trivial, hk⟩)) hg (.inl rfl)); have n2_ := Aside0.mk (blk_grown (g := gb289) (o := .cells #[.int .i64 a0_0, .slice A0_1 l0_1.length c0_1] 29 (0, 0)) (bk_ BK289.out) hg (Kd.R_ne HO_6.out BK289.out (by decide))); have n3_ := Aside0.mk ((by rw [hw]; exact below_set (HB.out) GB25.out : Below w.heap.size w w27)); clear HO_6; clear HO_7; clear BK289; clear HB; have HO_6 := n0_; have HO_7 := n1_; have BK289 := n2_; have HB := n3_; clear n0_ n1_ n2_ n3_; clear hg hw hp_))
    go_loopg [9] k1 (fun kq v9 w' => ∃ (x6_2 : List Int) (x7_2 : List Int) (x9_2 : Bool), v9 = .bool x9_2 ∧ Aside0 (impl_Tree_far.l1 kq x6_2 x7_2 x9_2 a0_0 l0_1 = some (r1, r2)) ∧ Aside0 (kq ≤ k1) ∧ Aside0 (Kd.R (Kd.int .i64) 2 w' w.heap.size (fun k_ => some k_ ≠ (v294 : Value).ownBlock) (.slice (some ⟨go25, 0, none⟩) x6_1.length co12) x6_2) ∧ Aside0 (Kd.R (Kd.int .i64) 2 w' w.heap.size (fun k_ => some k_ ≠ ((.slice (some ⟨go25, 0, none⟩) x6_1.length co12) : Value).ownBlock) v294 x7_2) ∧ Aside0 (w'.heap[gb289]? = some (.cells #[.int .i64 a0_0, (.slice A0_1 l0_1.length c0_1)] 29 (0, 0))) ∧ Aside0 (Below w.heap.size w w'))
    case atStart => exact ⟨(y298), (x7_1), (true), rs_, H', ⟨Nat.le_refl _⟩, ⟨by (try simp only [hl6_1]); (with_reducible repeat (first | apply Kd.R_alloc | apply Kd.R_drewN | apply Kd.R_drew)); exact HO_6.out⟩, ⟨by (try simp only [hl6_1]); (with_reducible repeat (first | apply Kd.R_alloc | apply Kd.R_drewN | apply Kd.R_drew)); exact Kd.R_mono HO_7.out (fun _ hk => hk.2)⟩, ⟨by (try simp only [hl6_1]); (with_reducible repeat (first | refine blk_drewN ?_ _ | refine blk_drew ?_ | refine blk_alloc ?_ _)); exact BK289.out⟩, ⟨bl1_ HB.out GE289.out⟩⟩
    case round =>
     clear H'
     try clear c1
     try clear p1
     try clear q1
     try clear hx1
     try clear c2
     try clear p2
     try clear q2
     try clear hx2
     try clear hf2
     try clear c3
     try clear c3b0
     try clear c3b1
     try clear c4
     try clear c4b0
     try clear c4b1
     try clear c6
     try clear p6
     try clear c13
     try clear c13b0
     try clear c14
     try clear c14b0
     try clear c15
     try clear c15b0
     try clear p16
     try clear q16
     try clear hx16
     try clear hf16
     try clear c17
     try clear c17b0
     try clear p18
     try clear q18
     try clear hx18
     try clear hf18
     try clear c23
     try clear c23b0
     try clear c24
     try clear c24b0
     try clear p25
     try clear q25
     try clear hx25
     try clear hf25
     try clear hx16_0
     try clear hx18_0
     try clear hx25_0
     try clear p16
     try clear p18
     try clear p2
     try clear p25
     try clear q16
     try clear q18
     try clear q25
     obtain ⟨x6_2, x7_2, x9_2, rfl, HA, HK2, HO_6, HO_7, BK289, HB⟩ := hrel
     have hl6_2 := (Kd.R_reads' HO_6.out).1
     rw [hl6_2] at HO_6
     (try simp only [hl6_2])
     (try simp only [hl6_2] at BK289)
     (try simp only [hl6_2] at HO_7)
     cases gk with
     | zero => exact absurd HA.out (by simp [impl_Tree_far.l1])
     | succ k2 =>
      have H := HA.out
      clear HA
      simp only [impl_Tree_far.l1] at H
      by_cases c28 : x9_2 = true
      ·subst c28
       have H1 : (impl_Tree_far.l2 k2 x6_2 x7_2 false l0_1 (l0_1.length : Int) 0 a0_0 l0_1) = some (r1, r2) := by rw [if_pos rfl] at H; exact H
       clear H
       have H := H1
       clear H1
       have H' := Aside0.mk H
       clear H
       have hcz29_0 : wr.cell? ⟨gb289, 0, none⟩ = some (.int .i64 a0_0) := (blk_cell BK289.out 0).trans rfl
       have hcz29_1 : wr.cell? ⟨gb289, 1, none⟩ = some (.slice A0_1 l0_1.length c0_1) := (blk_cell BK289.out 1).trans rfl
       have hfz29_0 := blk_frozen BK289.out 0
       have hfz29_1 := blk_frozen BK289.out 1
       go_wp2
       go_loopg [9, 39] k2 (fun kq v9 v39 w' => ∃ (x6_3 : List Int) (x7_3 : List Int) (x9_3 : Bool) (x39_3 : Int), v9 = .bool x9_3 ∧ v39 = .int .i64 x39_3 ∧ Aside0 (impl_Tree_far.l2 kq x6_3 x7_3 x9_3 l0_1 (l0_1.length : Int) x39_3 a0_0 l0_1 = some (r1, r2)) ∧ Aside0 (kq ≤ k2) ∧ Aside0 (Kd.R (Kd.int .i64) 2 w' w.heap.size (fun k_ => some k_ ≠ (v294 : Value).ownBlock) (.slice (some ⟨go25, 0, none⟩) x6_2.length co12) x6_3) ∧ Aside0 (Kd.R (Kd.int .i64) 2 w' w.heap.size (fun k_ => some k_ ≠ ((.slice (some ⟨go25, 0, none⟩) x6_2.length co12) : Value).ownBlock) v294 x7_3) ∧ Aside0 (w'.heap[gb289]? = some (.cells #[.int .i64 a0_0, (.slice A0_1 l0_1.length c0_1)] 29 (0, 0))) ∧ Aside0 (Below w.heap.size w w'))
       case atStart => exact ⟨(x6_2), (x7_2), (false), (0), rs_, rs_, H', ⟨Nat.le_refl _⟩, ⟨by (try simp only [hl6_1]); (try simp only [hl6_2]); (with_reducible repeat (first | apply Kd.R_alloc | apply Kd.R_drewN | apply Kd.R_drew)); exact HO_6.out⟩, ⟨by (try simp only [hl6_1]); (try simp only [hl6_2]); (with_reducible repeat (first | apply Kd.R_alloc | apply Kd.R_drewN | apply Kd.R_drew)); exact HO_7.out⟩, ⟨by (try simp only [hl6_1]); (try simp only [hl6_2]); (with_reducible repeat (first | refine blk_drewN ?_ _ | refine blk_drew ?_ | refine blk_alloc ?_ _)); exact BK289.out⟩, ⟨bl1_ HB.out GE289.out⟩⟩
       case round =>
        clear H'
        try clear c1
        try clear p1
        try clear q1
        try clear hx1
        try clear c2
        try clear p2
        try clear q2
        try clear hx2
        try clear hf2
        try clear c3
        try clear c3b0
        try clear c3b1
        try clear c4
        try clear c4b0
        try clear c4b1
        try clear c6
        try clear p6
        try clear c13
        try clear c13b0
        try clear c14
        try clear c14b0
        try clear c15
        try clear c15b0
        try clear p16
        try clear q16
        try clear hx16
        try clear hf16
        try clear c17
        try clear c17b0
        try clear p18
        try clear q18
        try clear hx18
        try clear hf18
        try clear c23
        try clear c23b0
        try clear c24
        try clear c24b0
        try clear p25
        try clear q25
        try clear hx25
        try clear hf25
        try clear c28
        try clear hcz29_0
        try clear hcz29_1
        try clear hfz29_0
        try clear hfz29_1
        try clear hx16_0
        try clear hx18_0
        try clear hx25_0
        try clear p1
        try clear p16
        try clear p18
        try clear p2
        try clear p25
        try clear p6
        try clear q1
        try clear q16
        try clear q18
        try clear q2
        try clear q25
        obtain ⟨x6_3, x7_3, x9_3, x39_3, rfl, rfl, HA, HK3, HO_6, HO_7, BK289, HB⟩ := hrel
        have hl6_3 := (Kd.R_reads' HO_6.out).1
        rw [hl6_3] at HO_6
        (try simp only [hl6_3])
        (try simp only [hl6_3] at BK289)
        (try simp only [hl6_3] at HO_7)
        cases gk with
        | zero => exact absurd HA.out (by simp [impl_Tree_far.l2])
        | succ k3 =>
         have H := HA.out
         clear HA
         simp only [impl_Tree_far.l2] at H
         by_cases c30 : x39_3 < (l0_1.length : Int)
         ·rw [if_pos c30] at H
          have c30b0 := decide_eq_true c30
          clear c30
          by_cases c31 : 0 ≤ x39_3
          rotate_left
          ·exact nope_ c31 H
          rw [if_pos c31] at H
          have c31b0 := decide_eq_true c31
          clear c31
          by_cases c32 : x39_3 < (l0_1.length : Int)
          rotate_left
          ·exact nope_ c32 H
          rw [if_pos c32] at H
          have c32b0 := decide_eq_true c32
          clear c32
          have H' := Aside0.mk H
          clear H
          have p299 : 0 ≤ (x39_3 : Int) := od_
          have q299 : x39_3 < (l0_1.length : Int) := od_
          obtain ⟨ad299, e299, hx299_0, hx299_1, hx299_2⟩ := at_T71 HR0_1.out x39_3 p299 q299
          cases e299
          replace hx299_0 := (HB.out.cell (World.block_lt_of_cell? w _ hx299_0)).trans hx299_0
          replace hx299_1 := (HB.out.cell (World.block_lt_of_cell? w _ hx299_1)).trans hx299_1
          replace hx299_2 := (HB.out.cell (World.block_lt_of_cell? w _ hx299_2)).trans hx299_2
          replace p299 := eq_true p299
          replace q299 := eq_true q299
          go_wp2_with (first | ((with_reducible refine gate_dst (N := 11) rfl ?_); refine box_event ?hg (N := 11) ?hd (cs := #[.int .i64 0, .int .i64 0, .int .i64 0]) (t := 71) ?hr ?_; (case hd => rfl); (case hg => rfl); (case hr => first | (go_simp; done) | (go_simp; rfl)); intro gb300 hg w33 hbox hb; have n0_ := Aside0.mk (Kd.R_below (ra_ HO_6.out) hb); have n1_ := Aside0.mk (Kd.R_below (ra_ HO_7.out) hb); have n2_ := Aside0.mk (blk_below (g := gb289) (o := .cells #[.int .i64 a0_0, .slice (some ad299) l0_1.length c0_1] 29 (0, 0)) (bk_ BK289.out) hb); have n3_ := Aside0.mk (below_step (bl1_ HB.out GE289.out) hb); have n4_ := Aside0.mk (hbox); have n5_ := Aside0.mk ((by rw [hg]; exact (below_size (bl1_ HB.out GE289.out)) : w.heap.size ≤ gb300)); have n6_ := Aside0.mk ((by rw [hg]; exact (below_size (bl1_ HB.out GE289.out)) : w.heap.size ≤ gb300)); have n7_ := Aside0.mk ((by rw [hg]; exact Nat.ne_of_lt (blk_lt (bk_ BK289.out)) : gb289 ≠ gb300)); have n8_ := Aside0.mk ((by rw [hg]; exact Nat.ne_of_gt (blk_lt (bk_ BK289.out)) : gb300 ≠ gb289)); clear HO_6; clear HO_7; clear BK289; clear HB; have HO_6 := n0_; have HO_7 := n1_; have BK289 := n2_; have HB := n3_; have BK300 := n4_; have GW300 := n5_; have GE300 := n6_; have NB289_300 := n7_; have NB300_289 := n8_; clear n0_ n1_ n2_ n3_ n4_ n5_ n6_ n7_ n8_; clear hb hbox hg; have hnb34 := NB300_289.out; have hnc34 := NB289_300.out; have hcz35_0 : w33.cell? ⟨gb300, 0, none⟩ = some (.int .i64 0) := (blk_cell BK300.out 0).trans rfl; have hcz35_1 : w33.cell? ⟨gb300, 1, none⟩ = some (.int .i64 0) := (blk_cell BK300.out 1).trans rfl; have hcz35_2 : w33.cell? ⟨gb300, 2, none⟩ = some (.int .i64 0) := (blk_cell BK300.out 2).trans rfl; have hfz35_0 := blk_frozen BK300.out 0; have hfz35_1 := blk_frozen BK300.out 1; have hfz35_2 := blk_frozen BK300.out 2))
          go_loopg [9, 54] k3 (fun kq v9 v54 w' => ∃ (x6_4 : List Int) (x7_4 : List Int) (x9_4 : Bool) (x54_4 : Int), v9 = .bool x9_4 ∧ v54 = .int .i64 x54_4 ∧ Aside0 (impl_Tree_far.l3 kq x6_4 x7_4 x9_4 l0_1 (l0_1.length : Int) x39_3 x54_4 a0_0 l0_1 ((rd_T71 l0_1 x39_3).f0) ((rd_T71 l0_1 x39_3).f1) ((rd_T71 l0_1 x39_3).f2) ((rd_T71 l0_1 x39_3).f1) ((rd_T71 l0_1 x39_3).f0) ((rd_T71 l0_1 x39_3).f0) ((rd_T71 l0_1 x39_3).f1) ((rd_T71 l0_1 x39_3).f1) ((rd_T71 l0_1 x39_3).f0) = some (r1, r2)) ∧ Aside0 (kq ≤ k3) ∧ Aside0 (Kd.R (Kd.int .i64) 2 w' w.heap.size (fun k_ => some k_ ≠ (v294 : Value).ownBlock) (.slice (some ⟨go25, 0, none⟩) x6_3.length co12) x6_4) ∧ Aside0 (Kd.R (Kd.int .i64) 2 w' w.heap.size (fun k_ => some k_ ≠ ((.slice (some ⟨go25, 0, none⟩) x6_3.length co12) : Value).ownBlock) v294 x7_4) ∧ Aside0 (w'.heap[gb289]? = some (.cells #[.int .i64 a0_0, (.slice (some ad299) l0_1.length c0_1)] 29 (0, 0))) ∧ Aside0 (w'.heap[gb300]? = some (.cells #[.int .i64 ((rd_T71 l0_1 x39_3).f0), .int .i64 ((rd_T71 l0_1 x39_3).f1), .int .i64 ((rd_T71 l0_1 x39_3).f2)] 71 (0, 0))) ∧ Aside0 (Below w.heap.size w w'))
          case atStart => exact ⟨(x6_3), (x7_3), (x9_3), (0), rs_, rs_, H', ⟨Nat.le_refl _⟩, ⟨by (try simp only [hl6_1]); (try simp only [hl6_2]); (try simp only [hl6_3]); (with_reducible repeat (first | apply Kd.R_alloc | apply Kd.R_drewN | apply Kd.R_drew)); exact Kd.R_mono (Kd.R_far (p := ⟨gb300, 2, none⟩) (Kd.R_far (p := ⟨gb300, 1, none⟩) (Kd.R_far (p := ⟨gb300, 0, none⟩) (Kd.R_types HO_6.out BK300.out (by decide)) (fun _ hk => hk.2) (.int .i64 ((rd_T71 l0_1 x39_3).f0))) (fun _ hk => hk.2) (.int .i64 ((rd_T71 l0_1 x39_3).f1))) (fun _ hk => hk.2) (.int .i64 ((rd_T71 l0_1 x39_3).f2))) (fun _ hk => hk.1)⟩, ⟨by (try simp only [hl6_1]); (try simp only [hl6_2]); (try simp only [hl6_3]); (with_reducible repeat (first | apply Kd.R_alloc | apply Kd.R_drewN | apply Kd.R_drew)); exact Kd.R_mono (Kd.R_far (p := ⟨gb300, 2, none⟩) (Kd.R_far (p := ⟨gb300, 1, none⟩) (Kd.R_far (p := ⟨gb300, 0, none⟩) (Kd.R_types HO_7.out BK300.out (by decide)) (fun _ hk => hk.2) (.int .i64 ((rd_T71 l0_1 x39_3).f0))) (fun _ hk => hk.2) (.int .i64 ((rd_T71 l0_1 x39_3).f1))) (fun _ hk => hk.2) (.int .i64 ((rd_T71 l0_1 x39_3).f2))) (fun _ hk => hk.1)⟩, ⟨by (try simp only [hl6_1]); (try simp only [hl6_2]); (try simp only [hl6_3]); (with_reducible repeat (first | refine blk_drewN ?_ _ | refine blk_drew ?_ | refine blk_alloc ?_ _)); refine blk_far ?_ NB289_300.out _; (with_reducible repeat (first | refine blk_drewN ?_ _ | refine blk_drew ?_ | refine blk_alloc ?_ _)); refine blk_far ?_ NB289_300.out _; (with_reducible repeat (first | refine blk_drewN ?_ _ | refine blk_drew ?_ | refine blk_alloc ?_ _)); refine blk_far ?_ NB289_300.out _; (with_reducible repeat (first | refine blk_drewN ?_ _ | refine blk_drew ?_ | refine blk_alloc ?_ _)); exact BK289.out⟩, ⟨by (try simp only [hl6_1]); (try simp only [hl6_2]); (try simp only [hl6_3]); (with_reducible repeat (first | refine blk_drewN ?_ _ | refine blk_drew ?_ | refine blk_alloc ?_ _)); refine blk_put (cs := #[.int .i64 ((rd_T71 l0_1 x39_3).f0), .int .i64 ((rd_T71 l0_1 x39_3).f1), .int .i64 0]) ?_ 2 _ rfl; (with_reducible repeat (first | refine blk_drewN ?_ _ | refine blk_drew ?_ | refine blk_alloc ?_ _)); refine blk_put (cs := #[.int .i64 ((rd_T71 l0_1 x39_3).f0), .int .i64 0, .int .i64 0]) ?_ 1 _ rfl; (with_reducible repeat (first | refine blk_drewN ?_ _ | refine blk_drew ?_ | refine blk_alloc ?_ _)); refine blk_put (cs := #[.int .i64 0, .int .i64 0, .int .i64 0]) ?_ 0 _ rfl; (with_reducible repeat (first | refine blk_drewN ?_ _ | refine blk_drew ?_ | refine blk_alloc ?_ _)); exact BK300.out⟩, ⟨bl2_ HB.out GE289.out GE300.out⟩⟩
          case round =>
           clear H'
           try clear c1
           try clear p1
           try clear q1
           try clear hx1
           try clear c2
           try clear p2
           try clear q2
           try clear hx2
           try clear hf2
           try clear c3
           try clear c3b0
           try clear c3b1
           try clear c4
           try clear c4b0
           try clear c4b1
           try clear c6
           try clear p6
           try clear c13
           try clear c13b0
           try clear c14
           try clear c14b0
           try clear c15
           try clear c15b0
           try clear p16
           try clear q16
           try clear hx16
           try clear hf16
           try clear c17
           try clear c17b0
           try clear p18
           try clear q18
           try clear hx18
           try clear hf18
           try clear c23
           try clear c23b0
           try clear c24
           try clear c24b0
           try clear p25
           try clear q25
           try clear hx25
           try clear hf25
           try clear c28
           try clear p29
           try clear q29
           try clear hx29
           try clear c30
           try clear c30b0
           try clear c31
           try clear c31b0
           try clear c32
           try clear c32b0
           try clear c34
           try clear hcz29_0
           try clear hcz29_1
           try clear hcz35_0
           try clear hcz35_1
           try clear hcz35_2
           try clear hfz29_0
           try clear hfz29_1
           try clear hfz35_0
           try clear hfz35_1
           try clear hfz35_2
           try clear hx16_0
           try clear hx18_0
           try clear hx25_0
           try clear hx299_0
           try clear hx299_1
           try clear hx299_2
           try clear p1
           try clear p16
           try clear p18
           try clear p2
           try clear p25
           try clear p299
           try clear p6
           try clear q1
           try clear q16
           try clear q18
           try clear q2
           try clear q25
           try clear q299
           obtain ⟨x6_4, x7_4, x9_4, x54_4, rfl, rfl, HA, HK4, HO_6, HO_7, BK289, BK300, HB⟩ := hrel
           have hl6_4 := (Kd.R_reads' HO_6.out).1
           rw [hl6_4] at HO_6
           (try simp only [hl6_4])
           (try simp only [hl6_4] at BK289)
           (try simp only [hl6_4] at BK300)
           (try simp only [hl6_4] at HO_7)
           cases gk with
           | zero => exact absurd HA.out (by simp [impl_Tree_far.l3])
           | succ k4 =>
            have H := HA.out
            clear HA
            simp only [impl_Tree_far.l3] at H
            by_cases c36 : x54_4 < 2
            ·rw [if_pos c36] at H
             have c36b0 := decide_eq_true c36
             clear c36
             by_cases c37 : x54_4 = 0
             ·rw [if_pos c37] at H
              have c37b0 : (x54_4 == 0) = true := beq_iff_eq.mpr c37
              have c37b1 : (x54_4 != 0) = false := bne_eq_false_iff_eq.mpr c37
              clear c37
              by_cases c39 : 0 ≤ ((rd_T71 l0_1 x39_3).f0)
              rotate_left
              ·exact nope_ c39 H
              rw [if_pos c39] at H
              have c39b0 := decide_eq_true c39
              clear c39
              by_cases c40 : ((rd_T71 l0_1 x39_3).f0) < (x6_4.length : Int)
              rotate_left
              ·exact nope_ c40 H
              rw [if_pos c40] at H
              have c40b0 := decide_eq_true c40
              clear c40
              by_cases c41 : (rd x6_4 ((rd_T71 l0_1 x39_3).f0)) ≥ 0
              ·rw [if_pos c41] at H
               have c41b0 := decide_eq_true c41
               clear c41
               by_cases c42 : 0 ≤ ((rd_T71 l0_1 x39_3).f1)
               rotate_left
               ·exact nope_ c42 H
               rw [if_pos c42] at H
               have c42b0 := decide_eq_true c42
               clear c42
               by_cases c43 : ((rd_T71 l0_1 x39_3).f1) < (x6_4.length : Int)
               rotate_left
               ·exact nope_ c43 H
               rw [if_pos c43] at H
               have c43b0 := decide_eq_true c43
               clear c43
               by_cases c44 : (rd x6_4 ((rd_T71 l0_1 x39_3).f1)) < 0
               ·rw [if_pos c44] at H
                have c44b0 := decide_eq_true c44
                clear c44
                obtain ⟨y305, hy305⟩ : ∃ y_ : List Int, y_ = (x6_4.set (((rd_T71 l0_1 x39_3).f1) : Int).toNat (wrap64 ((rd x6_4 ((rd_T71 l0_1 x39_3).f0)) + ((rd_T71 l0_1 x39_3).f2)))) := ⟨_, rfl⟩
                replace H : (if ((rd_T71 l0_1 x39_3).f1) < (x7_4.length : Int) then (impl_Tree_far.l3 k4 y305 (x7_4.set (((rd_T71 l0_1 x39_3).f1) : Int).toNat ((rd_T71 l0_1 x39_3).f0)) true l0_1 (l0_1.length : Int) x39_3 (wrap64 (x54_4 + 1)) a0_0 l0_1 ((rd_T71 l0_1 x39_3).f0) ((rd_T71 l0_1 x39_3).f1) ((rd_T71 l0_1 x39_3).f2) ((rd_T71 l0_1 x39_3).f1) ((rd_T71 l0_1 x39_3).f0) ((rd_T71 l0_1 x39_3).f0) ((rd_T71 l0_1 x39_3).f1) ((rd_T71 l0_1 x39_3).f1) ((rd_T71 l0_1 x39_3).f0)) else (none)) = some (r1, r2) := yh_ H hy305
                have Ny305 := Aside0.mk hy305
                clear hy305
                by_cases c46 : ((rd_T71 l0_1 x39_3).f1) < (x7_4.length : Int)
                rotate_left
                ·exact nope_ c46 H
                rw [if_pos c46] at H
                have c46b0 := decide_eq_true c46
                clear c46
                obtain ⟨y306, hy306⟩ : ∃ y_ : List Int, y_ = (x7_4.set (((rd_T71 l0_1 x39_3).f1) : Int).toNat ((rd_T71 l0_1 x39_3).f0)) := ⟨_, rfl⟩
                replace H : (impl_Tree_far.l3 k4 y305 y306 true l0_1 (l0_1.length : Int) x39_3 (wrap64 (x54_4 + 1)) a0_0 l0_1 ((rd_T71 l0_1 x39_3).f0) ((rd_T71 l0_1 x39_3).f1) ((rd_T71 l0_1 x39_3).f2) ((rd_T71 l0_1 x39_3).f1) ((rd_T71 l0_1 x39_3).f0) ((rd_T71 l0_1 x39_3).f0) ((rd_T71 l0_1 x39_3).f1) ((rd_T71 l0_1 x39_3).f1) ((rd_T71 l0_1 x39_3).f0)) = some (r1, r2) := yh_ H hy306
                have Ny306 := Aside0.mk hy306
                clear hy306
                have H' := Aside0.mk H
                clear H
                have hix38 : ∀ W_ : World, (Instr.index 112 (.agg #[.int .i64 ((rd_T71 l0_1 x39_3).f0), .int .i64 ((rd_T71 l0_1 x39_3).f1), .int .i64 ((rd_T71 l0_1 x39_3).f1), .int .i64 ((rd_T71 l0_1 x39_3).f0)]) (.int .i64 x54_4)).run Try.prog W_ = .ok (.agg #[.int .i64 ((rd_T71 l0_1 x39_3).f0), .int .i64 ((rd_T71 l0_1 x39_3).f1)]) W_ := fun W_ => by have e_ : (x54_4 : Int) = 0 := (by simpa using (show (x54_4 == 0) = true from (by assumption))); rw [e_]; rfl
                try go_wp2_with (first | ((with_reducible refine gate_dst (N := 13) rfl ?_); refine box_event ?hg (N := 13) ?hd (cs := #[.int .i64 0, .int .i64 0]) (t := 111) ?hr ?_; (case hd => rfl); (case hg => rfl); (case hr => first | (go_simp; done) | (go_simp; rfl)); intro gb301 hg w48 hbox hb; have n0_ := Aside0.mk (Kd.R_below (ra_ HO_6.out) hb); have n1_ := Aside0.mk (Kd.R_below (ra_ HO_7.out) hb); have n2_ := Aside0.mk (blk_below (g := gb289) (o := .cells #[.int .i64 a0_0, .slice (some ad299) l0_1.length c0_1] 29 (0, 0)) (bk_ BK289.out) hb); have n3_ := Aside0.mk (blk_below (g := gb300) (o := .cells #[.int .i64 ((rd_T71 l0_1 x39_3).f0), .int .i64 ((rd_T71 l0_1 x39_3).f1), .int .i64 ((rd_T71 l0_1 x39_3).f2)] 71 (0, 0)) (bk_ BK300.out) hb); have n4_ := Aside0.mk (below_step (bl2_ HB.out GE289.out GE300.out) hb); have n5_ := Aside0.mk (hbox); have n6_ := Aside0.mk ((by rw [hg]; exact (below_size (bl2_ HB.out GE289.out GE300.out)) : w.heap.size ≤ gb301)); have n7_ := Aside0.mk ((by rw [hg]; exact (below_size (bl2_ HB.out GE289.out GE300.out)) : w.heap.size ≤ gb301)); have n8_ := Aside0.mk ((by rw [hg]; exact Nat.ne_of_lt (blk_lt (bk_ BK289.out)) : gb289 ≠ gb301)); have n9_ := Aside0.mk ((by rw [hg]; exact Nat.ne_of_gt (blk_lt (bk_ BK289.out)) : gb301 ≠ gb289)); have n10_ := Aside0.mk ((by rw [hg]; exact Nat.ne_of_lt (blk_lt (bk_ BK300.out)) : gb300 ≠ gb301)); have n11_ := Aside0.mk ((by rw [hg]; exact Nat.ne_of_gt (blk_lt (bk_ BK300.out)) : gb301 ≠ gb300)); clear HO_6; clear HO_7; clear BK289; clear BK300; clear HB; have HO_6 := n0_; have HO_7 := n1_; have BK289 := n2_; have BK300 := n3_; have HB := n4_; have BK301 := n5_; have GW301 := n6_; have GE301 := n7_; have NB289_301 := n8_; have NB301_289 := n9_; have NB300_301 := n10_; have NB301_300 := n11_; clear n0_ n1_ n2_ n3_ n4_ n5_ n6_ n7_ n8_ n9_ n10_ n11_; clear hb hbox hg; have hnb49 := NB301_289.out; have hnc49 := NB289_301.out; have hnb50 := NB301_300.out; have hnc50 := NB300_301.out; have hcz51_0 : w48.cell? ⟨gb301, 0, none⟩ = some (.int .i64 0) := (blk_cell BK301.out 0).trans rfl; have hcz51_1 : w48.cell? ⟨gb301, 1, none⟩ = some (.int .i64 0) := (blk_cell BK301.out 1).trans rfl; have hfz51_0 := blk_frozen BK301.out 0; have hfz51_1 := blk_frozen BK301.out 1; have p302 : 0 ≤ (((rd_T71 l0_1 x39_3).f0) : Int) := od_; have q302 : ((rd_T71 l0_1 x39_3).f0) < (x6_4.length : Int) := od_; obtain ⟨ad302, e302, hx302_0⟩ := Kd.at_int (Kd.R_reads' HO_6.out).2.2 ((rd_T71 l0_1 x39_3).f0) p302 q302; obtain rfl : (⟨go25, 0, none⟩ : Addr) = ad302 := (by injection e302); (try first | simp only [add_plain] at hx302_0 | simp only [add_at] at hx302_0 | simp only [Addr.add, Nat.zero_add] at hx302_0); have hn302_0 : (⟨go25, 0, none⟩ : Addr).block ≠ gb301 := Kd.own_blk (Kd.R_ne HO_6.out BK301.out (by decide)); have hn302_1 : (⟨go25, 0, none⟩ : Addr).block ≠ gb301 := Kd.own_blk (Kd.R_ne HO_6.out BK301.out (by decide)); replace hx302_0 := (cell_far (p := ⟨gb301, 0, none⟩) (ab_ hn302_0) (.int .i64 ((rd_T71 l0_1 x39_3).f0))).trans hx302_0; replace hx302_0 := (cell_far (p := ⟨gb301, 1, none⟩) (ab_ hn302_1) (.int .i64 ((rd_T71 l0_1 x39_3).f1))).trans hx302_0; clear hn302_0; clear hn302_1; replace p302 := eq_true p302; replace q302 := eq_true q302; have p303 : 0 ≤ (((rd_T71 l0_1 x39_3).f1) : Int) := od_; have q303 : ((rd_T71 l0_1 x39_3).f1) < (x6_4.length : Int) := od_; obtain ⟨ad303, e303, hx303_0⟩ := Kd.at_int (Kd.R_reads' HO_6.out).2.2 ((rd_T71 l0_1 x39_3).f1) p303 q303; obtain rfl : (⟨go25, 0, none⟩ : Addr) = ad303 := (by injection e303); (try first | simp only [add_plain] at hx303_0 | simp only [add_at] at hx303_0 | simp only [Addr.add, Nat.zero_add] at hx303_0); have hn303_0 : (⟨go25, 0, none⟩ : Addr).block ≠ gb301 := Kd.own_blk (Kd.R_ne HO_6.out BK301.out (by decide)); have hn303_1 : (⟨go25, 0, none⟩ : Addr).block ≠ gb301 := Kd.own_blk (Kd.R_ne HO_6.out BK301.out (by decide)); replace hx303_0 := (cell_far (p := ⟨gb301, 0, none⟩) (ab_ hn303_0) (.int .i64 ((rd_T71 l0_1 x39_3).f0))).trans hx303_0; replace hx303_0 := (cell_far (p := ⟨gb301, 1, none⟩) (ab_ hn303_1) (.int .i64 ((rd_T71 l0_1 x39_3).f1))).trans hx303_0; clear hn303_0; clear hn303_1; replace p303 := eq_true p303; replace q303 := eq_true q303))
                have n0_ : Aside0 (Kd.R (Kd.int .i64) 2 ((w48.setCell ⟨gb301, 0, none⟩ (.int .i64 ((rd_T71 l0_1 x39_3).f0))).setCell ⟨gb301, 1, none⟩ (.int .i64 ((rd_T71 l0_1 x39_3).f1))) w.heap.size (fun k_ => some k_ ≠ (v294 : Value).ownBlock) (.slice (some ⟨go25, 0, none⟩) x6_4.length co12) x6_4) := ⟨by (with_reducible repeat (first | apply Kd.R_alloc | apply Kd.R_drewN | apply Kd.R_drew)); exact Kd.R_mono (Kd.R_far (p := ⟨gb301, 1, none⟩) (Kd.R_far (p := ⟨gb301, 0, none⟩) (Kd.R_types HO_6.out BK301.out (by decide)) (fun _ hk => hk.2) (.int .i64 ((rd_T71 l0_1 x39_3).f0))) (fun _ hk => hk.2) (.int .i64 ((rd_T71 l0_1 x39_3).f1))) (fun _ hk => hk.1)⟩
                have n1_ : Aside0 (Kd.R (Kd.int .i64) 2 ((w48.setCell ⟨gb301, 0, none⟩ (.int .i64 ((rd_T71 l0_1 x39_3).f0))).setCell ⟨gb301, 1, none⟩ (.int .i64 ((rd_T71 l0_1 x39_3).f1))) w.heap.size (fun k_ => some k_ ≠ (.slice (some ⟨go25, 0, none⟩) x6_4.length co12 : Value).ownBlock) v294 x7_4) := ⟨by (with_reducible repeat (first | apply Kd.R_alloc | apply Kd.R_drewN | apply Kd.R_drew)); exact Kd.R_mono (Kd.R_far (p := ⟨gb301, 1, none⟩) (Kd.R_far (p := ⟨gb301, 0, none⟩) (Kd.R_types HO_7.out BK301.out (by decide)) (fun _ hk => hk.2) (.int .i64 ((rd_T71 l0_1 x39_3).f0))) (fun _ hk => hk.2) (.int .i64 ((rd_T71 l0_1 x39_3).f1))) (fun _ hk => hk.1)⟩
                have n2_ : Aside0 (((w48.setCell ⟨gb301, 0, none⟩ (.int .i64 ((rd_T71 l0_1 x39_3).f0))).setCell ⟨gb301, 1, none⟩ (.int .i64 ((rd_T71 l0_1 x39_3).f1))).heap[gb289]? = some (.cells #[.int .i64 a0_0, .slice (some ad299) l0_1.length c0_1] 29 (0, 0))) := ⟨by (with_reducible repeat (first | refine blk_drewN ?_ _ | refine blk_drew ?_ | refine blk_alloc ?_ _)); refine blk_far ?_ NB289_301.out _; (with_reducible repeat (first | refine blk_drewN ?_ _ | refine blk_drew ?_ | refine blk_alloc ?_ _)); refine blk_far ?_ NB289_301.out _; (with_reducible repeat (first | refine blk_drewN ?_ _ | refine blk_drew ?_ | refine blk_alloc ?_ _)); exact BK289.out⟩
                have n3_ : Aside0 (((w48.setCell ⟨gb301, 0, none⟩ (.int .i64 ((rd_T71 l0_1 x39_3).f0))).setCell ⟨gb301, 1, none⟩ (.int .i64 ((rd_T71 l0_1 x39_3).f1))).heap[gb300]? = some (.cells #[.int .i64 ((rd_T71 l0_1 x39_3).f0), .int .i64 ((rd_T71 l0_1 x39_3).f1), .int .i64 ((rd_T71 l0_1 x39_3).f2)] 71 (0, 0))) := ⟨by (with_reducible repeat (first | refine blk_drewN ?_ _ | refine blk_drew ?_ | refine blk_alloc ?_ _)); refine blk_far ?_ NB300_301.out _; (with_reducible repeat (first | refine blk_drewN ?_ _ | refine blk_drew ?_ | refine blk_alloc ?_ _)); refine blk_far ?_ NB300_301.out _; (with_reducible repeat (first | refine blk_drewN ?_ _ | refine blk_drew ?_ | refine blk_alloc ?_ _)); exact BK300.out⟩
                have n4_ : Aside0 (((w48.setCell ⟨gb301, 0, none⟩ (.int .i64 ((rd_T71 l0_1 x39_3).f0))).setCell ⟨gb301, 1, none⟩ (.int .i64 ((rd_T71 l0_1 x39_3).f1))).heap[gb301]? = some (.cells #[.int .i64 ((rd_T71 l0_1 x39_3).f0), .int .i64 ((rd_T71 l0_1 x39_3).f1)] 111 (0, 0))) := ⟨by (with_reducible repeat (first | refine blk_drewN ?_ _ | refine blk_drew ?_ | refine blk_alloc ?_ _)); refine blk_put (cs := #[.int .i64 ((rd_T71 l0_1 x39_3).f0), .int .i64 0]) ?_ 1 _ rfl; (with_reducible repeat (first | refine blk_drewN ?_ _ | refine blk_drew ?_ | refine blk_alloc ?_ _)); refine blk_put (cs := #[.int .i64 0, .int .i64 0]) ?_ 0 _ rfl; (with_reducible repeat (first | refine blk_drewN ?_ _ | refine blk_drew ?_ | refine blk_alloc ?_ _)); exact BK301.out⟩
                have n5_ : Aside0 (Below w.heap.size w ((w48.setCell ⟨gb301, 0, none⟩ (.int .i64 ((rd_T71 l0_1 x39_3).f0))).setCell ⟨gb301, 1, none⟩ (.int .i64 ((rd_T71 l0_1 x39_3).f1)))) := ⟨bl3_ HB.out GE289.out GE300.out GE301.out⟩
                (try clear HO_6)
                (try clear HO_7)
                (try clear BK289)
                (try clear BK300)
                (try clear BK301)
                (try clear HB)
                generalize ((w48.setCell ⟨gb301, 0, none⟩ (.int .i64 ((rd_T71 l0_1 x39_3).f0))).setCell ⟨gb301, 1, none⟩ (.int .i64 ((rd_T71 l0_1 x39_3).f1))) = w52 at n0_ n1_ n2_ n3_ n4_ n5_ ⊢
                have HO_6 := n0_
                have HO_7 := n1_
                have BK289 := n2_
                have BK300 := n3_
                have BK301 := n4_
                have HB := n5_
                clear n0_ n1_ n2_ n3_ n4_ n5_
                have n0_ := Aside0.mk (Kd.R_drew HO_6.out)
                have n1_ := Aside0.mk (Kd.R_drew HO_7.out)
                have n2_ := Aside0.mk (blk_drew BK289.out)
                have n3_ := Aside0.mk (blk_drew BK300.out)
                have n4_ := Aside0.mk (blk_drew BK301.out)
                have n5_ := Aside0.mk (below_drew1 HB.out)
                clear HO_6
                clear HO_7
                clear BK289
                clear BK300
                clear BK301
                clear HB
                have HO_6 := n0_
                have HO_7 := n1_
                have BK289 := n2_
                have BK300 := n3_
                have BK301 := n4_
                have HB := n5_
                clear n0_ n1_ n2_ n3_ n4_ n5_
                have p304 : 0 ≤ (((rd_T71 l0_1 x39_3).f0) : Int) := od_
                have q304 : ((rd_T71 l0_1 x39_3).f0) < (x6_4.length : Int) := od_
                obtain ⟨ad304, e304, hx304_0⟩ := Kd.at_int (Kd.R_reads' HO_6.out).2.2 ((rd_T71 l0_1 x39_3).f0) p304 q304
                obtain rfl : (⟨go25, 0, none⟩ : Addr) = ad304 := (by injection e304)
                (try first | simp only [add_plain] at hx304_0 | simp only [add_at] at hx304_0 | simp only [Addr.add, Nat.zero_add] at hx304_0)
                replace p304 := eq_true p304
                replace q304 := eq_true q304
                have p45 : 0 ≤ (((rd_T71 l0_1 x39_3).f1) : Int) := od_
                have q45 : (((rd_T71 l0_1 x39_3).f1) : Int) < ((x6_4.length : Int) : Int) := od_
                obtain ⟨hx45_0, hf45_0⟩ := Kd.R_celln 0 HO_6.out (((rd_T71 l0_1 x39_3).f1) : Int) p45 q45
                replace p45 := eq_true p45
                replace q45 := eq_true q45
                have HP54 := Kd.R_putn HO_6.out (((rd_T71 l0_1 x39_3).f1) : Int) (wrap64 ((rd x6_4 ((rd_T71 l0_1 x39_3).f0)) + ((rd_T71 l0_1 x39_3).f2)))
                rw [← Ny305.out] at HP54
                have HQ54 := Aside0.mk HP54
                clear HP54
                have p47 : 0 ≤ (((rd_T71 l0_1 x39_3).f1) : Int) := od_
                have q47 : (((rd_T71 l0_1 x39_3).f1) : Int) < ((x7_4.length : Int) : Int) := od_
                obtain ⟨go47, co47, eo47, gb47, gl47, cl47, HG47⟩ := Kd.R_form HO_7.out (by omega)
                (first | cases eo47 | (injection eo47 with ea_ en_ ec_; (first | subst ea_ | (injection ea_ with ea_; subst ea_)); subst ec_; clear en_))
                have GB47 := Aside0.mk gb47
                have GG47 := Aside0.mk HG47
                clear gb47 gl47 HG47
                obtain ⟨hx47_0, hf47_0⟩ := Kd.R_celln 0 (Kd.R_far (p := ⟨go25, (((rd_T71 l0_1 x39_3).f1) : Int).toNat, none⟩) (Kd.R_mono HO_7.out (fun k_ hk => (⟨hk, fun e_ => hk (by rw [e_]; rfl)⟩ : _ ∧ k_ ≠ go25))) (fun _ hk => hk.2) (.int .i64 (wrap64 ((rd x6_4 ((rd_T71 l0_1 x39_3).f0)) + ((rd_T71 l0_1 x39_3).f2))))) (((rd_T71 l0_1 x39_3).f1) : Int) p47 q47
                replace p47 := eq_true p47
                replace q47 := eq_true q47
                have HP55 := Kd.R_putn (Kd.R_far (p := ⟨go25, (((rd_T71 l0_1 x39_3).f1) : Int).toNat, none⟩) (Kd.R_mono HO_7.out (fun k_ hk => (⟨hk, fun e_ => hk (by rw [e_]; rfl)⟩ : _ ∧ k_ ≠ go25))) (fun _ hk => hk.2) (.int .i64 (wrap64 ((rd x6_4 ((rd_T71 l0_1 x39_3).f0)) + ((rd_T71 l0_1 x39_3).f2))))) (((rd_T71 l0_1 x39_3).f1) : Int) ((rd_T71 l0_1 x39_3).f0)
                rw [← Ny306.out] at HP55
                have HQ55 := Aside0.mk HP55
                clear HP55
                have hrn301_go25 : gb301 ≠ go25 := Ne.symm (Kd.own_blk (Kd.R_ne HO_6.out BK301.out (by decide)))
                have hrn300_go25 : gb300 ≠ go25 := Ne.symm (Kd.own_blk (Kd.R_ne HO_6.out BK300.out (by decide)))
                have hrn301_go47 : gb301 ≠ go47 := Ne.symm (Kd.own_blk (Kd.R_ne HO_7.out BK301.out (by decide)))
                have hrn300_go47 : gb300 ≠ go47 := Ne.symm (Kd.own_blk (Kd.R_ne HO_7.out BK300.out (by decide)))
                refine start_ (n := 21) (S := fun w' => w'.cell? ⟨gb301, 0, none⟩ = some (.int .i64 ((rd_T71 l0_1 x39_3).f0)) ∧ w'.cell? ⟨gb301, 1, none⟩ = some (.int .i64 ((rd_T71 l0_1 x39_3).f1)) ∧ w'.cell? ⟨gb300, 0, none⟩ = some (.int .i64 ((rd_T71 l0_1 x39_3).f0)) ∧ w'.cell? ⟨gb300, 1, none⟩ = some (.int .i64 ((rd_T71 l0_1 x39_3).f1)) ∧ w'.cell? ⟨gb300, 2, none⟩ = some (.int .i64 ((rd_T71 l0_1 x39_3).f2))) (ds := []) #[false,false,false,false,false,false,false,false,false,false,false,false,false,false,false,false,false,false,false,false,false] (by kernel_rfl) rfl rfl ⟨(blk_cell BK301.out 0).trans rfl, (blk_cell BK301.out 1).trans rfl, (blk_cell BK300.out 0).trans rfl, (blk_cell BK300.out 1).trans rfl, (blk_cell BK300.out 2).trans rfl⟩ (fun hHeld => ?_); refine with_tabW impl_Tree_far.tab18 impl_Tree_far.bits18 (fun HT_ HW_ => ?_)
                generalize w52.drew = w53 at HO_6 HO_7 BK289 BK300 BK301 HB GG47 HQ54 HQ55 hf45_0 hf47_0 hx304_0 hx45_0 hx47_0 hHeld ⊢
                refine puz_ 0 (some 71) #[true,false,false,false,false,false,false,false,false,false,false,false,false,false,false,false,false,false,false,false,false] rfl rfl (any_of HT_.out (by kernel_rfl)) ?_
                refine puz_ 1 (some 72) #[true,true,false,false,false,false,false,false,false,false,false,false,false,false,false,false,false,false,false,false,false] rfl rfl (any_of HT_.out (by kernel_rfl)) ?_
                refine puz_ 3 (some 74) #[true,true,false,true,false,false,false,false,false,false,false,false,false,false,false,false,false,false,false,false,false] rfl rfl (any_of HT_.out (by kernel_rfl)) ?_
                refine puz_ 4 (some 75) #[true,true,false,true,true,false,false,false,false,false,false,false,false,false,false,false,false,false,false,false,false] rfl rfl (any_of HT_.out (by kernel_rfl)) ?_
                refine puz_ 6 (some 77) #[true,true,false,true,true,false,true,false,false,false,false,false,false,false,false,false,false,false,false,false,false] rfl rfl (any_of HT_.out (by kernel_rfl)) ?_
                refine puz_ 7 (some 78) #[true,true,false,true,true,false,true,true,false,false,false,false,false,false,false,false,false,false,false,false,false] rfl rfl (any_of HT_.out (by kernel_rfl)) ?_
                refine puz_ 11 (some 82) #[true,true,false,true,true,false,true,true,false,false,false,true,false,false,false,false,false,false,false,false,false] rfl rfl (any_of HT_.out (by kernel_rfl)) ?_
                refine puz_ 14 (some 85) #[true,true,false,true,true,false,true,true,false,false,false,true,false,false,true,false,false,false,false,false,false] rfl rfl (any_of HT_.out (by kernel_rfl)) ?_
                refine tkz_ 2 (some 73) #[true,true,true,true,true,false,true,true,false,false,false,true,false,false,true,false,false,false,false,false,false] rfl rfl (take_ofW HT_.out HW_.out (by kernel_rfl)) hHeld ?_
                refine tkz_ 5 (some 76) #[true,true,true,true,true,true,true,true,false,false,false,true,false,false,true,false,false,false,false,false,false] rfl rfl (take_ofW HT_.out HW_.out (by kernel_rfl)) hHeld ?_
                refine tkz_ 8 (some 79) #[true,true,true,true,true,true,true,true,true,false,false,true,false,false,true,false,false,false,false,false,false] rfl rfl (take_ofW HT_.out HW_.out (by kernel_rfl)) hHeld ?_
                refine puz_ 9 (some 80) #[true,true,true,true,true,true,true,true,true,true,false,true,false,false,true,false,false,false,false,false,false] rfl rfl (any_of HT_.out (by kernel_rfl)) ?_
                refine tkz_ 12 (some 83) #[true,true,true,true,true,true,true,true,true,true,false,true,true,false,true,false,false,false,false,false,false] rfl rfl (take_ofW HT_.out HW_.out (by kernel_rfl)) hHeld ?_
                refine tkz_ 15 (some 86) #[true,true,true,true,true,true,true,true,true,true,false,true,true,false,true,true,false,false,false,false,false] rfl rfl (take_ofW HT_.out HW_.out (by kernel_rfl)) hHeld ?_
                refine one_ (i := 10) (N := some 81) #[true,true,true,true,true,true,true,true,true,true,true,true,true,false,true,true,false,false,false,false,false] rfl rfl (one_of HT_.out (by kernel_rfl)) (by decide) (fun K hK => ?_)
                refine value_ (w1 := ?_) (v := ?_) (by rfl) rfl ?_ ?_
                rotate_left 2
                ·go_simp
                 constructor
                 ·rfl
                 ·rfl
                refine hK.out _ _ ⟨hHeld.1, hHeld.2.1, hHeld.2.2.1, hHeld.2.2.2.1, hHeld.2.2.2.2⟩ (fun hHeld => ?_)
                clear hK K
                refine norm_ (a' := ?_) ?_ ?_
                rotate_left
                ·show Act.put _ (some 81) _ = _
                 simp only [Act.put, List.setIfInBounds_toArray, List.set_cons_zero, List.set_cons_succ, i64_w, i32_w]
                 rfl
                refine puz_ 13 (some 84) #[true,true,true,true,true,true,true,true,true,true,true,true,true,true,true,true,false,false,false,false,false] rfl rfl (any_of HT_.out (by kernel_rfl)) ?_
                refine puz_ 16 (some 87) #[true,true,true,true,true,true,true,true,true,true,true,true,true,true,true,true,true,false,false,false,false] rfl rfl (any_of HT_.out (by kernel_rfl)) ?_
                refine one_ (i := 17) (N := none) #[true,true,true,true,true,true,true,true,true,true,true,true,true,true,true,true,true,true,false,false,false] rfl rfl (one_of HT_.out (by kernel_rfl)) (by decide) (fun K hK => ?_)
                refine skip_ (w1 := ?_) (by rfl) rfl ?_ ?_
                rotate_left
                ·go_simp
                 rfl
                refine hK.out _ _ ⟨((cell_far (p := ⟨go25, _, none⟩) hrn301_go25 _).trans (hHeld.1)), ((cell_far (p := ⟨go25, _, none⟩) hrn301_go25 _).trans (hHeld.2.1)), ((cell_far (p := ⟨go25, _, none⟩) hrn300_go25 _).trans (hHeld.2.2.1)), ((cell_far (p := ⟨go25, _, none⟩) hrn300_go25 _).trans (hHeld.2.2.2.1)), ((cell_far (p := ⟨go25, _, none⟩) hrn300_go25 _).trans (hHeld.2.2.2.2))⟩ (fun hHeld => ?_)
                clear hK K
                refine puz_ 18 (some 88) #[true,true,true,true,true,true,true,true,true,true,true,true,true,true,true,true,true,true,true,false,false] rfl rfl (any_of HT_.out (by kernel_rfl)) ?_
                refine one_ (i := 19) (N := none) #[true,true,true,true,true,true,true,true,true,true,true,true,true,true,true,true,true,true,true,true,false] rfl rfl (one_of HT_.out (by kernel_rfl)) (by decide) (fun K hK => ?_)
                refine skip_ (w1 := ?_) (by rfl) rfl ?_ ?_
                rotate_left
                ·go_simp
                 rfl
                refine hK.out _ _ ⟨((cell_far (p := ⟨go47, _, none⟩) hrn301_go47 _).trans (hHeld.1)), ((cell_far (p := ⟨go47, _, none⟩) hrn301_go47 _).trans (hHeld.2.1)), ((cell_far (p := ⟨go47, _, none⟩) hrn300_go47 _).trans (hHeld.2.2.1)), ((cell_far (p := ⟨go47, _, none⟩) hrn300_go47 _).trans (hHeld.2.2.2.1)), ((cell_far (p := ⟨go47, _, none⟩) hrn300_go47 _).trans (hHeld.2.2.2.2))⟩ (fun hHeld => ?_)
                clear hK K
                refine puz_ 20 (some 9) #[true,true,true,true,true,true,true,true,true,true,true,true,true,true,true,true,true,true,true,true,true] rfl rfl (any_of HT_.out (by kernel_rfl)) ?_
                refine done_ (done_of HT_.out (by kernel_rfl)) ?_
                try go_wp2
                (try simp only [← hl6_4])
                go_roundg k4
                case measure => have := HK1.out; have := HK2.out; have := HK3.out; have := HK4.out; omega
                case rel => exact ⟨(y305), (y306), (true), (wrap64 (x54_4 + 1)), rs_, rs_, H', ⟨by have := HK1.out; have := HK2.out; have := HK3.out; have := HK4.out; omega⟩, ⟨by (try simp only [hl6_1]); (try simp only [hl6_2]); (try simp only [hl6_3]); (try simp only [hl6_4]); (with_reducible repeat (first | apply Kd.R_alloc | apply Kd.R_drewN | apply Kd.R_drew)); exact Kd.R_mono (Kd.R_far (p := ⟨go47, (((rd_T71 l0_1 x39_3).f1) : Int).toNat, none⟩) (Kd.R_mono HQ54.out (fun k_ hk => (⟨hk, fun e_ => hk (by rw [e_]; rfl)⟩ : _ ∧ k_ ≠ go47))) (fun _ hk => hk.2) (.int .i64 ((rd_T71 l0_1 x39_3).f0))) (fun _ hk => hk.1)⟩, ⟨by (try simp only [hl6_1]); (try simp only [hl6_2]); (try simp only [hl6_3]); (try simp only [hl6_4]); (with_reducible repeat (first | apply Kd.R_alloc | apply Kd.R_drewN | apply Kd.R_drew)); exact Kd.R_mono HQ55.out (fun _ hk => hk.1)⟩, ⟨by (try simp only [hl6_1]); (try simp only [hl6_2]); (try simp only [hl6_3]); (try simp only [hl6_4]); (with_reducible repeat (first | refine blk_drewN ?_ _ | refine blk_drew ?_ | refine blk_alloc ?_ _)); refine blk_far ?_ (by have h_ := Kd.R_ne HO_7.out BK289.out (by decide); intro e_; exact h_ (by rw [e_]; rfl)) _; (with_reducible repeat (first | refine blk_drewN ?_ _ | refine blk_drew ?_ | refine blk_alloc ?_ _)); refine blk_far ?_ (by have h_ := Kd.R_ne HO_6.out BK289.out (by decide); intro e_; exact h_ (by rw [e_]; rfl)) _; (with_reducible repeat (first | refine blk_drewN ?_ _ | refine blk_drew ?_ | refine blk_alloc ?_ _)); exact BK289.out⟩, ⟨by (try simp only [hl6_1]); (try simp only [hl6_2]); (try simp only [hl6_3]); (try simp only [hl6_4]); (with_reducible repeat (first | refine blk_drewN ?_ _ | refine blk_drew ?_ | refine blk_alloc ?_ _)); refine blk_far ?_ (by have h_ := Kd.R_ne HO_7.out BK300.out (by decide); intro e_; exact h_ (by rw [e_]; rfl)) _; (with_reducible repeat (first | refine blk_drewN ?_ _ | refine blk_drew ?_ | refine blk_alloc ?_ _)); refine blk_far ?_ (by have h_ := Kd.R_ne HO_6.out BK300.out (by decide); intro e_; exact h_ (by rw [e_]; rfl)) _; (with_reducible repeat (first | refine blk_drewN ?_ _ | refine blk_drew ?_ | refine blk_alloc ?_ _)); exact BK300.out⟩, ⟨by repeat (first | (with_reducible first | exact HB.out | apply below_alloc | apply pw_below_drewN | apply below_drew1 | refine below_set ?_ GB25.out | refine below_set ?_ GB47.out | refine below_set ?_ GE289.out | refine below_set ?_ GE300.out | refine below_set ?_ GE301.out) | exact HB.out)⟩⟩
               ·rw [if_neg c44] at H
                have c44b0 := decide_eq_false c44
                clear c44
                have H' := Aside0.mk H
                clear H
                have hix38 : ∀ W_ : World, (Instr.index 112 (.agg #[.int .i64 ((rd_T71 l0_1 x39_3).f0), .int .i64 ((rd_T71 l0_1 x39_3).f1), .int .i64 ((rd_T71 l0_1 x39_3).f1), .int .i64 ((rd_T71 l0_1 x39_3).f0)]) (.int .i64 x54_4)).run Try.prog W_ = .ok (.agg #[.int .i64 ((rd_T71 l0_1 x39_3).f0), .int .i64 ((rd_T71 l0_1 x39_3).f1)]) W_ := fun W_ => by have e_ : (x54_4 : Int) = 0 := (by simpa using (show (x54_4 == 0) = true from (by assumption))); rw [e_]; rfl
                go_wp2_with (first | ((with_reducible refine gate_dst (N := 13) rfl ?_); refine box_event ?hg (N := 13) ?hd (cs := #[.int .i64 0, .int .i64 0]) (t := 111) ?hr ?_; (case hd => rfl); (case hg => rfl); (case hr => first | (go_simp; done) | (go_simp; rfl)); intro gb301 hg w56 hbox hb; have n0_ := Aside0.mk (Kd.R_below (ra_ HO_6.out) hb); have n1_ := Aside0.mk (Kd.R_below (ra_ HO_7.out) hb); have n2_ := Aside0.mk (blk_below (g := gb289) (o := .cells #[.int .i64 a0_0, .slice (some ad299) l0_1.length c0_1] 29 (0, 0)) (bk_ BK289.out) hb); have n3_ := Aside0.mk (blk_below (g := gb300) (o := .cells #[.int .i64 ((rd_T71 l0_1 x39_3).f0), .int .i64 ((rd_T71 l0_1 x39_3).f1), .int .i64 ((rd_T71 l0_1 x39_3).f2)] 71 (0, 0)) (bk_ BK300.out) hb); have n4_ := Aside0.mk (below_step (bl2_ HB.out GE289.out GE300.out) hb); have n5_ := Aside0.mk (hbox); have n6_ := Aside0.mk ((by rw [hg]; exact (below_size (bl2_ HB.out GE289.out GE300.out)) : w.heap.size ≤ gb301)); have n7_ := Aside0.mk ((by rw [hg]; exact (below_size (bl2_ HB.out GE289.out GE300.out)) : w.heap.size ≤ gb301)); have n8_ := Aside0.mk ((by rw [hg]; exact Nat.ne_of_lt (blk_lt (bk_ BK289.out)) : gb289 ≠ gb301)); have n9_ := Aside0.mk ((by rw [hg]; exact Nat.ne_of_gt (blk_lt (bk_ BK289.out)) : gb301 ≠ gb289)); have n10_ := Aside0.mk ((by rw [hg]; exact Nat.ne_of_lt (blk_lt (bk_ BK300.out)) : gb300 ≠ gb301)); have n11_ := Aside0.mk ((by rw [hg]; exact Nat.ne_of_gt (blk_lt (bk_ BK300.out)) : gb301 ≠ gb300)); clear HO_6; clear HO_7; clear BK289; clear BK300; clear HB; have HO_6 := n0_; have HO_7 := n1_; have BK289 := n2_; have BK300 := n3_; have HB := n4_; have BK301 := n5_; have GW301 := n6_; have GE301 := n7_; have NB289_301 := n8_; have NB301_289 := n9_; have NB300_301 := n10_; have NB301_300 := n11_; clear n0_ n1_ n2_ n3_ n4_ n5_ n6_ n7_ n8_ n9_ n10_ n11_; clear hb hbox hg; have hnb57 := NB301_289.out; have hnc57 := NB289_301.out; have hnb58 := NB301_300.out; have hnc58 := NB300_301.out; have hcz59_0 : w56.cell? ⟨gb301, 0, none⟩ = some (.int .i64 0) := (blk_cell BK301.out 0).trans rfl; have hcz59_1 : w56.cell? ⟨gb301, 1, none⟩ = some (.int .i64 0) := (blk_cell BK301.out 1).trans rfl; have hfz59_0 := blk_frozen BK301.out 0; have hfz59_1 := blk_frozen BK301.out 1; have p302 : 0 ≤ (((rd_T71 l0_1 x39_3).f0) : Int) := od_; have q302 : ((rd_T71 l0_1 x39_3).f0) < (x6_4.length : Int) := od_; obtain ⟨ad302, e302, hx302_0⟩ := Kd.at_int (Kd.R_reads' HO_6.out).2.2 ((rd_T71 l0_1 x39_3).f0) p302 q302; obtain rfl : (⟨go25, 0, none⟩ : Addr) = ad302 := (by injection e302); (try first | simp only [add_plain] at hx302_0 | simp only [add_at] at hx302_0 | simp only [Addr.add, Nat.zero_add] at hx302_0); have hn302_0 : (⟨go25, 0, none⟩ : Addr).block ≠ gb301 := Kd.own_blk (Kd.R_ne HO_6.out BK301.out (by decide)); have hn302_1 : (⟨go25, 0, none⟩ : Addr).block ≠ gb301 := Kd.own_blk (Kd.R_ne HO_6.out BK301.out (by decide)); replace hx302_0 := (cell_far (p := ⟨gb301, 0, none⟩) (ab_ hn302_0) (.int .i64 ((rd_T71 l0_1 x39_3).f0))).trans hx302_0; replace hx302_0 := (cell_far (p := ⟨gb301, 1, none⟩) (ab_ hn302_1) (.int .i64 ((rd_T71 l0_1 x39_3).f1))).trans hx302_0; clear hn302_0; clear hn302_1; replace p302 := eq_true p302; replace q302 := eq_true q302; have p303 : 0 ≤ (((rd_T71 l0_1 x39_3).f1) : Int) := od_; have q303 : ((rd_T71 l0_1 x39_3).f1) < (x6_4.length : Int) := od_; obtain ⟨ad303, e303, hx303_0⟩ := Kd.at_int (Kd.R_reads' HO_6.out).2.2 ((rd_T71 l0_1 x39_3).f1) p303 q303; obtain rfl : (⟨go25, 0, none⟩ : Addr) = ad303 := (by injection e303); (try first | simp only [add_plain] at hx303_0 | simp only [add_at] at hx303_0 | simp only [Addr.add, Nat.zero_add] at hx303_0); have hn303_0 : (⟨go25, 0, none⟩ : Addr).block ≠ gb301 := Kd.own_blk (Kd.R_ne HO_6.out BK301.out (by decide)); have hn303_1 : (⟨go25, 0, none⟩ : Addr).block ≠ gb301 := Kd.own_blk (Kd.R_ne HO_6.out BK301.out (by decide)); replace hx303_0 := (cell_far (p := ⟨gb301, 0, none⟩) (ab_ hn303_0) (.int .i64 ((rd_T71 l0_1 x39_3).f0))).trans hx303_0; replace hx303_0 := (cell_far (p := ⟨gb301, 1, none⟩) (ab_ hn303_1) (.int .i64 ((rd_T71 l0_1 x39_3).f1))).trans hx303_0; clear hn303_0; clear hn303_1; replace p303 := eq_true p303; replace q303 := eq_true q303))
                (try simp only [← hl6_4])
                go_roundg k4
                case measure => have := HK1.out; have := HK2.out; have := HK3.out; have := HK4.out; omega
                case rel => exact ⟨(x6_4), (x7_4), (x9_4), (wrap64 (x54_4 + 1)), rs_, rs_, H', ⟨by have := HK1.out; have := HK2.out; have := HK3.out; have := HK4.out; omega⟩, ⟨by (try simp only [hl6_1]); (try simp only [hl6_2]); (try simp only [hl6_3]); (try simp only [hl6_4]); (with_reducible repeat (first | apply Kd.R_alloc | apply Kd.R_drewN | apply Kd.R_drew)); exact Kd.R_mono (Kd.R_far (p := ⟨gb301, 1, none⟩) (Kd.R_far (p := ⟨gb301, 0, none⟩) (Kd.R_types HO_6.out BK301.out (by decide)) (fun _ hk => hk.2) (.int .i64 ((rd_T71 l0_1 x39_3).f0))) (fun _ hk => hk.2) (.int .i64 ((rd_T71 l0_1 x39_3).f1))) (fun _ hk => hk.1)⟩, ⟨by (try simp only [hl6_1]); (try simp only [hl6_2]); (try simp only [hl6_3]); (try simp only [hl6_4]); (with_reducible repeat (first | apply Kd.R_alloc | apply Kd.R_drewN | apply Kd.R_drew)); exact Kd.R_mono (Kd.R_far (p := ⟨gb301, 1, none⟩) (Kd.R_far (p := ⟨gb301, 0, none⟩) (Kd.R_types HO_7.out BK301.out (by decide)) (fun _ hk => hk.2) (.int .i64 ((rd_T71 l0_1 x39_3).f0))) (fun _ hk => hk.2) (.int .i64 ((rd_T71 l0_1 x39_3).f1))) (fun _ hk => hk.1)⟩, ⟨by (try simp only [hl6_1]); (try simp only [hl6_2]); (try simp only [hl6_3]); (try simp only [hl6_4]); (with_reducible repeat (first | refine blk_drewN ?_ _ | refine blk_drew ?_ | refine blk_alloc ?_ _)); refine blk_far ?_ NB289_301.out _; (with_reducible repeat (first | refine blk_drewN ?_ _ | refine blk_drew ?_ | refine blk_alloc ?_ _)); refine blk_far ?_ NB289_301.out _; (with_reducible repeat (first | refine blk_drewN ?_ _ | refine blk_drew ?_ | refine blk_alloc ?_ _)); exact BK289.out⟩, ⟨by (try simp only [hl6_1]); (try simp only [hl6_2]); (try simp only [hl6_3]); (try simp only [hl6_4]); (with_reducible repeat (first | refine blk_drewN ?_ _ | refine blk_drew ?_ | refine blk_alloc ?_ _)); refine blk_far ?_ NB300_301.out _; (with_reducible repeat (first | refine blk_drewN ?_ _ | refine blk_drew ?_ | refine blk_alloc ?_ _)); refine blk_far ?_ NB300_301.out _; (with_reducible repeat (first | refine blk_drewN ?_ _ | refine blk_drew ?_ | refine blk_alloc ?_ _)); exact BK300.out⟩, ⟨bl3_ HB.out GE289.out GE300.out GE301.out⟩⟩
              ·rw [if_neg c41] at H
               have c41b0 := decide_eq_false c41
               clear c41
               have H' := Aside0.mk H
               clear H
               have hix38 : ∀ W_ : World, (Instr.index 112 (.agg #[.int .i64 ((rd_T71 l0_1 x39_3).f0), .int .i64 ((rd_T71 l0_1 x39_3).f1), .int .i64 ((rd_T71 l0_1 x39_3).f1), .int .i64 ((rd_T71 l0_1 x39_3).f0)]) (.int .i64 x54_4)).run Try.prog W_ = .ok (.agg #[.int .i64 ((rd_T71 l0_1 x39_3).f0), .int .i64 ((rd_T71 l0_1 x39_3).f1)]) W_ := fun W_ => by have e_ : (x54_4 : Int) = 0 := (by simpa using (show (x54_4 == 0) = true from (by assumption))); rw [e_]; rfl
               go_wp2_with (first | ((with_reducible refine gate_dst (N := 13) rfl ?_); refine box_event ?hg (N := 13) ?hd (cs := #[.int .i64 0, .int .i64 0]) (t := 111) ?hr ?_; (case hd => rfl); (case hg => rfl); (case hr => first | (go_simp; done) | (go_simp; rfl)); intro gb301 hg w60 hbox hb; have n0_ := Aside0.mk (Kd.R_below (ra_ HO_6.out) hb); have n1_ := Aside0.mk (Kd.R_below (ra_ HO_7.out) hb); have n2_ := Aside0.mk (blk_below (g := gb289) (o := .cells #[.int .i64 a0_0, .slice (some ad299) l0_1.length c0_1] 29 (0, 0)) (bk_ BK289.out) hb); have n3_ := Aside0.mk (blk_below (g := gb300) (o := .cells #[.int .i64 ((rd_T71 l0_1 x39_3).f0), .int .i64 ((rd_T71 l0_1 x39_3).f1), .int .i64 ((rd_T71 l0_1 x39_3).f2)] 71 (0, 0)) (bk_ BK300.out) hb); have n4_ := Aside0.mk (below_step (bl2_ HB.out GE289.out GE300.out) hb); have n5_ := Aside0.mk (hbox); have n6_ := Aside0.mk ((by rw [hg]; exact (below_size (bl2_ HB.out GE289.out GE300.out)) : w.heap.size ≤ gb301)); have n7_ := Aside0.mk ((by rw [hg]; exact (below_size (bl2_ HB.out GE289.out GE300.out)) : w.heap.size ≤ gb301)); have n8_ := Aside0.mk ((by rw [hg]; exact Nat.ne_of_lt (blk_lt (bk_ BK289.out)) : gb289 ≠ gb301)); have n9_ := Aside0.mk ((by rw [hg]; exact Nat.ne_of_gt (blk_lt (bk_ BK289.out)) : gb301 ≠ gb289)); have n10_ := Aside0.mk ((by rw [hg]; exact Nat.ne_of_lt (blk_lt (bk_ BK300.out)) : gb300 ≠ gb301)); have n11_ := Aside0.mk ((by rw [hg]; exact Nat.ne_of_gt (blk_lt (bk_ BK300.out)) : gb301 ≠ gb300)); clear HO_6; clear HO_7; clear BK289; clear BK300; clear HB; have HO_6 := n0_; have HO_7 := n1_; have BK289 := n2_; have BK300 := n3_; have HB := n4_; have BK301 := n5_; have GW301 := n6_; have GE301 := n7_; have NB289_301 := n8_; have NB301_289 := n9_; have NB300_301 := n10_; have NB301_300 := n11_; clear n0_ n1_ n2_ n3_ n4_ n5_ n6_ n7_ n8_ n9_ n10_ n11_; clear hb hbox hg; have hnb61 := NB301_289.out; have hnc61 := NB289_301.out; have hnb62 := NB301_300.out; have hnc62 := NB300_301.out; have hcz63_0 : w60.cell? ⟨gb301, 0, none⟩ = some (.int .i64 0) := (blk_cell BK301.out 0).trans rfl; have hcz63_1 : w60.cell? ⟨gb301, 1, none⟩ = some (.int .i64 0) := (blk_cell BK301.out 1).trans rfl; have hfz63_0 := blk_frozen BK301.out 0; have hfz63_1 := blk_frozen BK301.out 1; have p302 : 0 ≤ (((rd_T71 l0_1 x39_3).f0) : Int) := od_; have q302 : ((rd_T71 l0_1 x39_3).f0) < (x6_4.length : Int) := od_; obtain ⟨ad302, e302, hx302_0⟩ := Kd.at_int (Kd.R_reads' HO_6.out).2.2 ((rd_T71 l0_1 x39_3).f0) p302 q302; obtain rfl : (⟨go25, 0, none⟩ : Addr) = ad302 := (by injection e302); (try first | simp only [add_plain] at hx302_0 | simp only [add_at] at hx302_0 | simp only [Addr.add, Nat.zero_add] at hx302_0); have hn302_0 : (⟨go25, 0, none⟩ : Addr).block ≠ gb301 := Kd.own_blk (Kd.R_ne HO_6.out BK301.out (by decide)); have hn302_1 : (⟨go25, 0, none⟩ : Addr).block ≠ gb301 := Kd.own_blk (Kd.R_ne HO_6.out BK301.out (by decide)); replace hx302_0 := (cell_far (p := ⟨gb301, 0, none⟩) (ab_ hn302_0) (.int .i64 ((rd_T71 l0_1 x39_3).f0))).trans hx302_0; replace hx302_0 := (cell_far (p := ⟨gb301, 1, none⟩) (ab_ hn302_1) (.int .i64 ((rd_T71 l0_1 x39_3).f1))).trans hx302_0; clear hn302_0; clear hn302_1; replace p302 := eq_true p302; replace q302 := eq_true q302))
               (try simp only [← hl6_4])
               go_roundg k4
               case measure => have := HK1.out; have := HK2.out; have := HK3.out; have := HK4.out; omega
               case rel => exact ⟨(x6_4), (x7_4), (x9_4), (wrap64 (x54_4 + 1)), rs_, rs_, H', ⟨by have := HK1.out; have := HK2.out; have := HK3.out; have := HK4.out; omega⟩, ⟨by (try simp only [hl6_1]); (try simp only [hl6_2]); (try simp only [hl6_3]); (try simp only [hl6_4]); (with_reducible repeat (first | apply Kd.R_alloc | apply Kd.R_drewN | apply Kd.R_drew)); exact Kd.R_mono (Kd.R_far (p := ⟨gb301, 1, none⟩) (Kd.R_far (p := ⟨gb301, 0, none⟩) (Kd.R_types HO_6.out BK301.out (by decide)) (fun _ hk => hk.2) (.int .i64 ((rd_T71 l0_1 x39_3).f0))) (fun _ hk => hk.2) (.int .i64 ((rd_T71 l0_1 x39_3).f1))) (fun _ hk => hk.1)⟩, ⟨by (try simp only [hl6_1]); (try simp only [hl6_2]); (try simp only [hl6_3]); (try simp only [hl6_4]); (with_reducible repeat (first | apply Kd.R_alloc | apply Kd.R_drewN | apply Kd.R_drew)); exact Kd.R_mono (Kd.R_far (p := ⟨gb301, 1, none⟩) (Kd.R_far (p := ⟨gb301, 0, none⟩) (Kd.R_types HO_7.out BK301.out (by decide)) (fun _ hk => hk.2) (.int .i64 ((rd_T71 l0_1 x39_3).f0))) (fun _ hk => hk.2) (.int .i64 ((rd_T71 l0_1 x39_3).f1))) (fun _ hk => hk.1)⟩, ⟨by (try simp only [hl6_1]); (try simp only [hl6_2]); (try simp only [hl6_3]); (try simp only [hl6_4]); (with_reducible repeat (first | refine blk_drewN ?_ _ | refine blk_drew ?_ | refine blk_alloc ?_ _)); refine blk_far ?_ NB289_301.out _; (with_reducible repeat (first | refine blk_drewN ?_ _ | refine blk_drew ?_ | refine blk_alloc ?_ _)); refine blk_far ?_ NB289_301.out _; (with_reducible repeat (first | refine blk_drewN ?_ _ | refine blk_drew ?_ | refine blk_alloc ?_ _)); exact BK289.out⟩, ⟨by (try simp only [hl6_1]); (try simp only [hl6_2]); (try simp only [hl6_3]); (try simp only [hl6_4]); (with_reducible repeat (first | refine blk_drewN ?_ _ | refine blk_drew ?_ | refine blk_alloc ?_ _)); refine blk_far ?_ NB300_301.out _; (with_reducible repeat (first | refine blk_drewN ?_ _ | refine blk_drew ?_ | refine blk_alloc ?_ _)); refine blk_far ?_ NB300_301.out _; (with_reducible repeat (first | refine blk_drewN ?_ _ | refine blk_drew ?_ | refine blk_alloc ?_ _)); exact BK300.out⟩, ⟨bl3_ HB.out GE289.out GE300.out GE301.out⟩⟩
             ·rw [if_neg c37] at H
              have c37b0 : (x54_4 == 0) = false := beq_eq_false_iff_ne.mpr c37
              have c37b1 : (x54_4 != 0) = true := bne_iff_ne.mpr c37
              by_cases c64 : x54_4 = 1
              rotate_left
              ·exact nope_ c64 H
              rw [if_pos c64] at H
              have c64b0 : (x54_4 == 1) = true := beq_iff_eq.mpr c64
              have c64b1 : (x54_4 != 1) = false := bne_eq_false_iff_eq.mpr c64
              clear c64
              by_cases c66 : 0 ≤ ((rd_T71 l0_1 x39_3).f1)
              rotate_left
              ·exact nope_ c66 H
              rw [if_pos c66] at H
              have c66b0 := decide_eq_true c66
              clear c66
              by_cases c67 : ((rd_T71 l0_1 x39_3).f1) < (x6_4.length : Int)
              rotate_left
              ·exact nope_ c67 H
              rw [if_pos c67] at H
              have c67b0 := decide_eq_true c67
              clear c67
              by_cases c68 : (rd x6_4 ((rd_T71 l0_1 x39_3).f1)) ≥ 0
              ·rw [if_pos c68] at H
               have c68b0 := decide_eq_true c68
               clear c68
               by_cases c69 : 0 ≤ ((rd_T71 l0_1 x39_3).f0)
               rotate_left
               ·exact nope_ c69 H
               rw [if_pos c69] at H
               have c69b0 := decide_eq_true c69
               clear c69
               by_cases c70 : ((rd_T71 l0_1 x39_3).f0) < (x6_4.length : Int)
               rotate_left
               ·exact nope_ c70 H
               rw [if_pos c70] at H
               have c70b0 := decide_eq_true c70
               clear c70
               by_cases c71 : (rd x6_4 ((rd_T71 l0_1 x39_3).f0)) < 0
               ·rw [if_pos c71] at H
                have c71b0 := decide_eq_true c71
                clear c71
                obtain ⟨y311, hy311⟩ : ∃ y_ : List Int, y_ = (x6_4.set (((rd_T71 l0_1 x39_3).f0) : Int).toNat (wrap64 ((rd x6_4 ((rd_T71 l0_1 x39_3).f1)) + ((rd_T71 l0_1 x39_3).f2)))) := ⟨_, rfl⟩
                replace H : (if ((rd_T71 l0_1 x39_3).f0) < (x7_4.length : Int) then (impl_Tree_far.l3 k4 y311 (x7_4.set (((rd_T71 l0_1 x39_3).f0) : Int).toNat ((rd_T71 l0_1 x39_3).f1)) true l0_1 (l0_1.length : Int) x39_3 (wrap64 (x54_4 + 1)) a0_0 l0_1 ((rd_T71 l0_1 x39_3).f0) ((rd_T71 l0_1 x39_3).f1) ((rd_T71 l0_1 x39_3).f2) ((rd_T71 l0_1 x39_3).f1) ((rd_T71 l0_1 x39_3).f0) ((rd_T71 l0_1 x39_3).f0) ((rd_T71 l0_1 x39_3).f1) ((rd_T71 l0_1 x39_3).f1) ((rd_T71 l0_1 x39_3).f0)) else (none)) = some (r1, r2) := yh_ H hy311
                have Ny311 := Aside0.mk hy311
                clear hy311
                by_cases c73 : ((rd_T71 l0_1 x39_3).f0) < (x7_4.length : Int)
                rotate_left
                ·exact nope_ c73 H
                rw [if_pos c73] at H
                have c73b0 := decide_eq_true c73
                clear c73
                obtain ⟨y312, hy312⟩ : ∃ y_ : List Int, y_ = (x7_4.set (((rd_T71 l0_1 x39_3).f0) : Int).toNat ((rd_T71 l0_1 x39_3).f1)) := ⟨_, rfl⟩
                replace H : (impl_Tree_far.l3 k4 y311 y312 true l0_1 (l0_1.length : Int) x39_3 (wrap64 (x54_4 + 1)) a0_0 l0_1 ((rd_T71 l0_1 x39_3).f0) ((rd_T71 l0_1 x39_3).f1) ((rd_T71 l0_1 x39_3).f2) ((rd_T71 l0_1 x39_3).f1) ((rd_T71 l0_1 x39_3).f0) ((rd_T71 l0_1 x39_3).f0) ((rd_T71 l0_1 x39_3).f1) ((rd_T71 l0_1 x39_3).f1) ((rd_T71 l0_1 x39_3).f0)) = some (r1, r2) := yh_ H hy312
                have Ny312 := Aside0.mk hy312
                clear hy312
                have H' := Aside0.mk H
                clear H
                have hix65 : ∀ W_ : World, (Instr.index 112 (.agg #[.int .i64 ((rd_T71 l0_1 x39_3).f0), .int .i64 ((rd_T71 l0_1 x39_3).f1), .int .i64 ((rd_T71 l0_1 x39_3).f1), .int .i64 ((rd_T71 l0_1 x39_3).f0)]) (.int .i64 x54_4)).run Try.prog W_ = .ok (.agg #[.int .i64 ((rd_T71 l0_1 x39_3).f1), .int .i64 ((rd_T71 l0_1 x39_3).f0)]) W_ := fun W_ => by have e_ : (x54_4 : Int) = 1 := (by simpa using (show (x54_4 == 1) = true from (by assumption))); rw [e_]; rfl
                try go_wp2_with (first | ((with_reducible refine gate_dst (N := 13) rfl ?_); refine box_event ?hg (N := 13) ?hd (cs := #[.int .i64 0, .int .i64 0]) (t := 111) ?hr ?_; (case hd => rfl); (case hg => rfl); (case hr => first | (go_simp; done) | (go_simp; rfl)); intro gb307 hg w75 hbox hb; have n0_ := Aside0.mk (Kd.R_below (ra_ HO_6.out) hb); have n1_ := Aside0.mk (Kd.R_below (ra_ HO_7.out) hb); have n2_ := Aside0.mk (blk_below (g := gb289) (o := .cells #[.int .i64 a0_0, .slice (some ad299) l0_1.length c0_1] 29 (0, 0)) (bk_ BK289.out) hb); have n3_ := Aside0.mk (blk_below (g := gb300) (o := .cells #[.int .i64 ((rd_T71 l0_1 x39_3).f0), .int .i64 ((rd_T71 l0_1 x39_3).f1), .int .i64 ((rd_T71 l0_1 x39_3).f2)] 71 (0, 0)) (bk_ BK300.out) hb); have n4_ := Aside0.mk (below_step (bl2_ HB.out GE289.out GE300.out) hb); have n5_ := Aside0.mk (hbox); have n6_ := Aside0.mk ((by rw [hg]; exact (below_size (bl2_ HB.out GE289.out GE300.out)) : w.heap.size ≤ gb307)); have n7_ := Aside0.mk ((by rw [hg]; exact (below_size (bl2_ HB.out GE289.out GE300.out)) : w.heap.size ≤ gb307)); have n8_ := Aside0.mk ((by rw [hg]; exact Nat.ne_of_lt (blk_lt (bk_ BK289.out)) : gb289 ≠ gb307)); have n9_ := Aside0.mk ((by rw [hg]; exact Nat.ne_of_gt (blk_lt (bk_ BK289.out)) : gb307 ≠ gb289)); have n10_ := Aside0.mk ((by rw [hg]; exact Nat.ne_of_lt (blk_lt (bk_ BK300.out)) : gb300 ≠ gb307)); have n11_ := Aside0.mk ((by rw [hg]; exact Nat.ne_of_gt (blk_lt (bk_ BK300.out)) : gb307 ≠ gb300)); clear HO_6; clear HO_7; clear BK289; clear BK300; clear HB; have HO_6 := n0_; have HO_7 := n1_; have BK289 := n2_; have BK300 := n3_; have HB := n4_; have BK307 := n5_; have GW307 := n6_; have GE307 := n7_; have NB289_307 := n8_; have NB307_289 := n9_; have NB300_307 := n10_; have NB307_300 := n11_; clear n0_ n1_ n2_ n3_ n4_ n5_ n6_ n7_ n8_ n9_ n10_ n11_; clear hb hbox hg; have hnb76 := NB307_289.out; have hnc76 := NB289_307.out; have hnb77 := NB307_300.out; have hnc77 := NB300_307.out; have hcz78_0 : w75.cell? ⟨gb307, 0, none⟩ = some (.int .i64 0) := (blk_cell BK307.out 0).trans rfl; have hcz78_1 : w75.cell? ⟨gb307, 1, none⟩ = some (.int .i64 0) := (blk_cell BK307.out 1).trans rfl; have hfz78_0 := blk_frozen BK307.out 0; have hfz78_1 := blk_frozen BK307.out 1; have p308 : 0 ≤ (((rd_T71 l0_1 x39_3).f1) : Int) := od_; have q308 : ((rd_T71 l0_1 x39_3).f1) < (x6_4.length : Int) := od_; obtain ⟨ad308, e308, hx308_0⟩ := Kd.at_int (Kd.R_reads' HO_6.out).2.2 ((rd_T71 l0_1 x39_3).f1) p308 q308; obtain rfl : (⟨go25, 0, none⟩ : Addr) = ad308 := (by injection e308); (try first | simp only [add_plain] at hx308_0 | simp only [add_at] at hx308_0 | simp only [Addr.add, Nat.zero_add] at hx308_0); have hn308_0 : (⟨go25, 0, none⟩ : Addr).block ≠ gb307 := Kd.own_blk (Kd.R_ne HO_6.out BK307.out (by decide)); have hn308_1 : (⟨go25, 0, none⟩ : Addr).block ≠ gb307 := Kd.own_blk (Kd.R_ne HO_6.out BK307.out (by decide)); replace hx308_0 := (cell_far (p := ⟨gb307, 0, none⟩) (ab_ hn308_0) (.int .i64 ((rd_T71 l0_1 x39_3).f1))).trans hx308_0; replace hx308_0 := (cell_far (p := ⟨gb307, 1, none⟩) (ab_ hn308_1) (.int .i64 ((rd_T71 l0_1 x39_3).f0))).trans hx308_0; clear hn308_0; clear hn308_1; replace p308 := eq_true p308; replace q308 := eq_true q308; have p309 : 0 ≤ (((rd_T71 l0_1 x39_3).f0) : Int) := od_; have q309 : ((rd_T71 l0_1 x39_3).f0) < (x6_4.length : Int) := od_; obtain ⟨ad309, e309, hx309_0⟩ := Kd.at_int (Kd.R_reads' HO_6.out).2.2 ((rd_T71 l0_1 x39_3).f0) p309 q309; obtain rfl : (⟨go25, 0, none⟩ : Addr) = ad309 := (by injection e309); (try first | simp only [add_plain] at hx309_0 | simp only [add_at] at hx309_0 | simp only [Addr.add, Nat.zero_add] at hx309_0); have hn309_0 : (⟨go25, 0, none⟩ : Addr).block ≠ gb307 := Kd.own_blk (Kd.R_ne HO_6.out BK307.out (by decide)); have hn309_1 : (⟨go25, 0, none⟩ : Addr).block ≠ gb307 := Kd.own_blk (Kd.R_ne HO_6.out BK307.out (by decide)); replace hx309_0 := (cell_far (p := ⟨gb307, 0, none⟩) (ab_ hn309_0) (.int .i64 ((rd_T71 l0_1 x39_3).f1))).trans hx309_0; replace hx309_0 := (cell_far (p := ⟨gb307, 1, none⟩) (ab_ hn309_1) (.int .i64 ((rd_T71 l0_1 x39_3).f0))).trans hx309_0; clear hn309_0; clear hn309_1; replace p309 := eq_true p309; replace q309 := eq_true q309))
                have n0_ : Aside0 (Kd.R (Kd.int .i64) 2 ((w75.setCell ⟨gb307, 0, none⟩ (.int .i64 ((rd_T71 l0_1 x39_3).f1))).setCell ⟨gb307, 1, none⟩ (.int .i64 ((rd_T71 l0_1 x39_3).f0))) w.heap.size (fun k_ => some k_ ≠ (v294 : Value).ownBlock) (.slice (some ⟨go25, 0, none⟩) x6_4.length co12) x6_4) := ⟨by (with_reducible repeat (first | apply Kd.R_alloc | apply Kd.R_drewN | apply Kd.R_drew)); exact Kd.R_mono (Kd.R_far (p := ⟨gb307, 1, none⟩) (Kd.R_far (p := ⟨gb307, 0, none⟩) (Kd.R_types HO_6.out BK307.out (by decide)) (fun _ hk => hk.2) (.int .i64 ((rd_T71 l0_1 x39_3).f1))) (fun _ hk => hk.2) (.int .i64 ((rd_T71 l0_1 x39_3).f0))) (fun _ hk => hk.1)⟩
                have n1_ : Aside0 (Kd.R (Kd.int .i64) 2 ((w75.setCell ⟨gb307, 0, none⟩ (.int .i64 ((rd_T71 l0_1 x39_3).f1))).setCell ⟨gb307, 1, none⟩ (.int .i64 ((rd_T71 l0_1 x39_3).f0))) w.heap.size (fun k_ => some k_ ≠ (.slice (some ⟨go25, 0, none⟩) x6_4.length co12 : Value).ownBlock) v294 x7_4) := ⟨by (with_reducible repeat (first | apply Kd.R_alloc | apply Kd.R_drewN | apply Kd.R_drew)); exact Kd.R_mono (Kd.R_far (p := ⟨gb307, 1, none⟩) (Kd.R_far (p := ⟨gb307, 0, none⟩) (Kd.R_types HO_7.out BK307.out (by decide)) (fun _ hk => hk.2) (.int .i64 ((rd_T71 l0_1 x39_3).f1))) (fun _ hk => hk.2) (.int .i64 ((rd_T71 l0_1 x39_3).f0))) (fun _ hk => hk.1)⟩
                have n2_ : Aside0 (((w75.setCell ⟨gb307, 0, none⟩ (.int .i64 ((rd_T71 l0_1 x39_3).f1))).setCell ⟨gb307, 1, none⟩ (.int .i64 ((rd_T71 l0_1 x39_3).f0))).heap[gb289]? = some (.cells #[.int .i64 a0_0, .slice (some ad299) l0_1.length c0_1] 29 (0, 0))) := ⟨by (with_reducible repeat (first | refine blk_drewN ?_ _ | refine blk_drew ?_ | refine blk_alloc ?_ _)); refine blk_far ?_ NB289_307.out _; (with_reducible repeat (first | refine blk_drewN ?_ _ | refine blk_drew ?_ | refine blk_alloc ?_ _)); refine blk_far ?_ NB289_307.out _; (with_reducible repeat (first | refine blk_drewN ?_ _ | refine blk_drew ?_ | refine blk_alloc ?_ _)); exact BK289.out⟩
                have n3_ : Aside0 (((w75.setCell ⟨gb307, 0, none⟩ (.int .i64 ((rd_T71 l0_1 x39_3).f1))).setCell ⟨gb307, 1, none⟩ (.int .i64 ((rd_T71 l0_1 x39_3).f0))).heap[gb300]? = some (.cells #[.int .i64 ((rd_T71 l0_1 x39_3).f0), .int .i64 ((rd_T71 l0_1 x39_3).f1), .int .i64 ((rd_T71 l0_1 x39_3).f2)] 71 (0, 0))) := ⟨by (with_reducible repeat (first | refine blk_drewN ?_ _ | refine blk_drew ?_ | refine blk_alloc ?_ _)); refine blk_far ?_ NB300_307.out _; (with_reducible repeat (first | refine blk_drewN ?_ _ | refine blk_drew ?_ | refine blk_alloc ?_ _)); refine blk_far ?_ NB300_307.out _; (with_reducible repeat (first | refine blk_drewN ?_ _ | refine blk_drew ?_ | refine blk_alloc ?_ _)); exact BK300.out⟩
                have n4_ : Aside0 (((w75.setCell ⟨gb307, 0, none⟩ (.int .i64 ((rd_T71 l0_1 x39_3).f1))).setCell ⟨gb307, 1, none⟩ (.int .i64 ((rd_T71 l0_1 x39_3).f0))).heap[gb307]? = some (.cells #[.int .i64 ((rd_T71 l0_1 x39_3).f1), .int .i64 ((rd_T71 l0_1 x39_3).f0)] 111 (0, 0))) := ⟨by (with_reducible repeat (first | refine blk_drewN ?_ _ | refine blk_drew ?_ | refine blk_alloc ?_ _)); refine blk_put (cs := #[.int .i64 ((rd_T71 l0_1 x39_3).f1), .int .i64 0]) ?_ 1 _ rfl; (with_reducible repeat (first | refine blk_drewN ?_ _ | refine blk_drew ?_ | refine blk_alloc ?_ _)); refine blk_put (cs := #[.int .i64 0, .int .i64 0]) ?_ 0 _ rfl; (with_reducible repeat (first | refine blk_drewN ?_ _ | refine blk_drew ?_ | refine blk_alloc ?_ _)); exact BK307.out⟩
                have n5_ : Aside0 (Below w.heap.size w ((w75.setCell ⟨gb307, 0, none⟩ (.int .i64 ((rd_T71 l0_1 x39_3).f1))).setCell ⟨gb307, 1, none⟩ (.int .i64 ((rd_T71 l0_1 x39_3).f0)))) := ⟨bl3_ HB.out GE289.out GE300.out GE307.out⟩
                (try clear HO_6)
                (try clear HO_7)
                (try clear BK289)
                (try clear BK300)
                (try clear BK307)
                (try clear HB)
                generalize ((w75.setCell ⟨gb307, 0, none⟩ (.int .i64 ((rd_T71 l0_1 x39_3).f1))).setCell ⟨gb307, 1, none⟩ (.int .i64 ((rd_T71 l0_1 x39_3).f0))) = w79 at n0_ n1_ n2_ n3_ n4_ n5_ ⊢
                have HO_6 := n0_
                have HO_7 := n1_
                have BK289 := n2_
                have BK300 := n3_
                have BK307 := n4_
                have HB := n5_
                clear n0_ n1_ n2_ n3_ n4_ n5_
                have n0_ := Aside0.mk (Kd.R_drew HO_6.out)
                have n1_ := Aside0.mk (Kd.R_drew HO_7.out)
                have n2_ := Aside0.mk (blk_drew BK289.out)
                have n3_ := Aside0.mk (blk_drew BK300.out)
                have n4_ := Aside0.mk (blk_drew BK307.out)
                have n5_ := Aside0.mk (below_drew1 HB.out)
                clear HO_6
                clear HO_7
                clear BK289
                clear BK300
                clear BK307
                clear HB
                have HO_6 := n0_
                have HO_7 := n1_
                have BK289 := n2_
                have BK300 := n3_
                have BK307 := n4_
                have HB := n5_
                clear n0_ n1_ n2_ n3_ n4_ n5_
                have p310 : 0 ≤ (((rd_T71 l0_1 x39_3).f1) : Int) := od_
                have q310 : ((rd_T71 l0_1 x39_3).f1) < (x6_4.length : Int) := od_
                obtain ⟨ad310, e310, hx310_0⟩ := Kd.at_int (Kd.R_reads' HO_6.out).2.2 ((rd_T71 l0_1 x39_3).f1) p310 q310
                obtain rfl : (⟨go25, 0, none⟩ : Addr) = ad310 := (by injection e310)
                (try first | simp only [add_plain] at hx310_0 | simp only [add_at] at hx310_0 | simp only [Addr.add, Nat.zero_add] at hx310_0)
                replace p310 := eq_true p310
                replace q310 := eq_true q310
                have p72 : 0 ≤ (((rd_T71 l0_1 x39_3).f0) : Int) := od_
                have q72 : (((rd_T71 l0_1 x39_3).f0) : Int) < ((x6_4.length : Int) : Int) := od_
                obtain ⟨hx72_0, hf72_0⟩ := Kd.R_celln 0 HO_6.out (((rd_T71 l0_1 x39_3).f0) : Int) p72 q72
                replace p72 := eq_true p72
                replace q72 := eq_true q72
                have HP81 := Kd.R_putn HO_6.out (((rd_T71 l0_1 x39_3).f0) : Int) (wrap64 ((rd x6_4 ((rd_T71 l0_1 x39_3).f1)) + ((rd_T71 l0_1 x39_3).f2)))
                rw [← Ny311.out] at HP81
                have HQ81 := Aside0.mk HP81
                clear HP81
                have p74 : 0 ≤ (((rd_T71 l0_1 x39_3).f0) : Int) := od_
                have q74 : (((rd_T71 l0_1 x39_3).f0) : Int) < ((x7_4.length : Int) : Int) := od_
                obtain ⟨go74, co74, eo74, gb74, gl74, cl74, HG74⟩ := Kd.R_form HO_7.out (by omega)
                (first | cases eo74 | (injection eo74 with ea_ en_ ec_; (first | subst ea_ | (injection ea_ with ea_; subst ea_)); subst ec_; clear en_))
                have GB74 := Aside0.mk gb74
                have GG74 := Aside0.mk HG74
                clear gb74 gl74 HG74
                obtain ⟨hx74_0, hf74_0⟩ := Kd.R_celln 0 (Kd.R_far (p := ⟨go25, (((rd_T71 l0_1 x39_3).f0) : Int).toNat, none⟩) (Kd.R_mono HO_7.out (fun k_ hk => (⟨hk, fun e_ => hk (by rw [e_]; rfl)⟩ : _ ∧ k_ ≠ go25))) (fun _ hk => hk.2) (.int .i64 (wrap64 ((rd x6_4 ((rd_T71 l0_1 x39_3).f1)) + ((rd_T71 l0_1 x39_3).f2))))) (((rd_T71 l0_1 x39_3).f0) : Int) p74 q74
                replace p74 := eq_true p74
                replace q74 := eq_true q74
                have HP82 := Kd.R_putn (Kd.R_far (p := ⟨go25, (((rd_T71 l0_1 x39_3).f0) : Int).toNat, none⟩) (Kd.R_mono HO_7.out (fun k_ hk => (⟨hk, fun e_ => hk (by rw [e_]; rfl)⟩ : _ ∧ k_ ≠ go25))) (fun _ hk => hk.2) (.int .i64 (wrap64 ((rd x6_4 ((rd_T71 l0_1 x39_3).f1)) + ((rd_T71 l0_1 x39_3).f2))))) (((rd_T71 l0_1 x39_3).f0) : Int) ((rd_T71 l0_1 x39_3).f1)
                rw [← Ny312.out] at HP82
                have HQ82 := Aside0.mk HP82
                clear HP82
                have hrn307_go25 : gb307 ≠ go25 := Ne.symm (Kd.own_blk (Kd.R_ne HO_6.out BK307.out (by decide)))
                have hrn300_go25 : gb300 ≠ go25 := Ne.symm (Kd.own_blk (Kd.R_ne HO_6.out BK300.out (by decide)))
                have hrn307_go74 : gb307 ≠ go74 := Ne.symm (Kd.own_blk (Kd.R_ne HO_7.out BK307.out (by decide)))
                have hrn300_go74 : gb300 ≠ go74 := Ne.symm (Kd.own_blk (Kd.R_ne HO_7.out BK300.out (by decide)))
                refine start_ (n := 21) (S := fun w' => w'.cell? ⟨gb307, 0, none⟩ = some (.int .i64 ((rd_T71 l0_1 x39_3).f1)) ∧ w'.cell? ⟨gb307, 1, none⟩ = some (.int .i64 ((rd_T71 l0_1 x39_3).f0)) ∧ w'.cell? ⟨gb300, 0, none⟩ = some (.int .i64 ((rd_T71 l0_1 x39_3).f0)) ∧ w'.cell? ⟨gb300, 1, none⟩ = some (.int .i64 ((rd_T71 l0_1 x39_3).f1)) ∧ w'.cell? ⟨gb300, 2, none⟩ = some (.int .i64 ((rd_T71 l0_1 x39_3).f2))) (ds := []) #[false,false,false,false,false,false,false,false,false,false,false,false,false,false,false,false,false,false,false,false,false] (by kernel_rfl) rfl rfl ⟨(blk_cell BK307.out 0).trans rfl, (blk_cell BK307.out 1).trans rfl, (blk_cell BK300.out 0).trans rfl, (blk_cell BK300.out 1).trans rfl, (blk_cell BK300.out 2).trans rfl⟩ (fun hHeld => ?_); refine with_tabW impl_Tree_far.tab18 impl_Tree_far.bits18 (fun HT_ HW_ => ?_)
                generalize w79.drew = w80 at HO_6 HO_7 BK289 BK300 BK307 HB GG74 HQ81 HQ82 hf72_0 hf74_0 hx310_0 hx72_0 hx74_0 hHeld ⊢
                refine puz_ 0 (some 71) #[true,false,false,false,false,false,false,false,false,false,false,false,false,false,false,false,false,false,false,false,false] rfl rfl (any_of HT_.out (by kernel_rfl)) ?_
                refine puz_ 1 (some 72) #[true,true,false,false,false,false,false,false,false,false,false,false,false,false,false,false,false,false,false,false,false] rfl rfl (any_of HT_.out (by kernel_rfl)) ?_
                refine puz_ 3 (some 74) #[true,true,false,true,false,false,false,false,false,false,false,false,false,false,false,false,false,false,false,false,false] rfl rfl (any_of HT_.out (by kernel_rfl)) ?_
                refine puz_ 4 (some 75) #[true,true,false,true,true,false,false,false,false,false,false,false,false,false,false,false,false,false,false,false,false] rfl rfl (any_of HT_.out (by kernel_rfl)) ?_
                refine puz_ 6 (some 77) #[true,true,false,true,true,false,true,false,false,false,false,false,false,false,false,false,false,false,false,false,false] rfl rfl (any_of HT_.out (by kernel_rfl)) ?_
                refine puz_ 7 (some 78) #[true,true,false,true,true,false,true,true,false,false,false,false,false,false,false,false,false,false,false,false,false] rfl rfl (any_of HT_.out (by kernel_rfl)) ?_
                refine puz_ 11 (some 82) #[true,true,false,true,true,false,true,true,false,false,false,true,false,false,false,false,false,false,false,false,false] rfl rfl (any_of HT_.out (by kernel_rfl)) ?_
                refine puz_ 14 (some 85) #[true,true,false,true,true,false,true,true,false,false,false,true,false,false,true,false,false,false,false,false,false] rfl rfl (any_of HT_.out (by kernel_rfl)) ?_
                refine tkz_ 2 (some 73) #[true,true,true,true,true,false,true,true,false,false,false,true,false,false,true,false,false,false,false,false,false] rfl rfl (take_ofW HT_.out HW_.out (by kernel_rfl)) hHeld ?_
                refine tkz_ 5 (some 76) #[true,true,true,true,true,true,true,true,false,false,false,true,false,false,true,false,false,false,false,false,false] rfl rfl (take_ofW HT_.out HW_.out (by kernel_rfl)) hHeld ?_
                refine tkz_ 8 (some 79) #[true,true,true,true,true,true,true,true,true,false,false,true,false,false,true,false,false,false,false,false,false] rfl rfl (take_ofW HT_.out HW_.out (by kernel_rfl)) hHeld ?_
                refine puz_ 9 (some 80) #[true,true,true,true,true,true,true,true,true,true,false,true,false,false,true,false,false,false,false,false,false] rfl rfl (any_of HT_.out (by kernel_rfl)) ?_
                refine tkz_ 12 (some 83) #[true,true,true,true,true,true,true,true,true,true,false,true,true,false,true,false,false,false,false,false,false] rfl rfl (take_ofW HT_.out HW_.out (by kernel_rfl)) hHeld ?_
                refine tkz_ 15 (some 86) #[true,true,true,true,true,true,true,true,true,true,false,true,true,false,true,true,false,false,false,false,false] rfl rfl (take_ofW HT_.out HW_.out (by kernel_rfl)) hHeld ?_
                refine one_ (i := 10) (N := some 81) #[true,true,true,true,true,true,true,true,true,true,true,true,true,false,true,true,false,false,false,false,false] rfl rfl (one_of HT_.out (by kernel_rfl)) (by decide) (fun K hK => ?_)
                refine value_ (w1 := ?_) (v := ?_) (by rfl) rfl ?_ ?_
                rotate_left 2
                ·go_simp
                 constructor
                 ·rfl
                 ·rfl
                refine hK.out _ _ ⟨hHeld.1, hHeld.2.1, hHeld.2.2.1, hHeld.2.2.2.1, hHeld.2.2.2.2⟩ (fun hHeld => ?_)
                clear hK K
                refine norm_ (a' := ?_) ?_ ?_
                rotate_left
                ·show Act.put _ (some 81) _ = _
                 simp only [Act.put, List.setIfInBounds_toArray, List.set_cons_zero, List.set_cons_succ, i64_w, i32_w]
                 rfl
                refine puz_ 13 (some 84) #[true,true,true,true,true,true,true,true,true,true,true,true,true,true,true,true,false,false,false,false,false] rfl rfl (any_of HT_.out (by kernel_rfl)) ?_
                refine puz_ 16 (some 87) #[true,true,true,true,true,true,true,true,true,true,true,true,true,true,true,true,true,false,false,false,false] rfl rfl (any_of HT_.out (by kernel_rfl)) ?_
                refine one_ (i := 17) (N := none) #[true,true,true,true,true,true,true,true,true,true,true,true,true,true,true,true,true,true,false,false,false] rfl rfl (one_of HT_.out (by kernel_rfl)) (by decide) (fun K hK => ?_)
                refine skip_ (w1 := ?_) (by rfl) rfl ?_ ?_
                rotate_left
                ·go_simp
                 rfl
                refine hK.out _ _ ⟨((cell_far (p := ⟨go25, _, none⟩) hrn307_go25 _).trans (hHeld.1)), ((cell_far (p := ⟨go25, _, none⟩) hrn307_go25 _).trans (hHeld.2.1)), ((cell_far (p := ⟨go25, _, none⟩) hrn300_go25 _).trans (hHeld.2.2.1)), ((cell_far (p := ⟨go25, _, none⟩) hrn300_go25 _).trans (hHeld.2.2.2.1)), ((cell_far (p := ⟨go25, _, none⟩) hrn300_go25 _).trans (hHeld.2.2.2.2))⟩ (fun hHeld => ?_)
                clear hK K
                refine puz_ 18 (some 88) #[true,true,true,true,true,true,true,true,true,true,true,true,true,true,true,true,true,true,true,false,false] rfl rfl (any_of HT_.out (by kernel_rfl)) ?_
                refine one_ (i := 19) (N := none) #[true,true,true,true,true,true,true,true,true,true,true,true,true,true,true,true,true,true,true,true,false] rfl rfl (one_of HT_.out (by kernel_rfl)) (by decide) (fun K hK => ?_)
                refine skip_ (w1 := ?_) (by rfl) rfl ?_ ?_
                rotate_left
                ·go_simp
                 rfl
                refine hK.out _ _ ⟨((cell_far (p := ⟨go74, _, none⟩) hrn307_go74 _).trans (hHeld.1)), ((cell_far (p := ⟨go74, _, none⟩) hrn307_go74 _).trans (hHeld.2.1)), ((cell_far (p := ⟨go74, _, none⟩) hrn300_go74 _).trans (hHeld.2.2.1)), ((cell_far (p := ⟨go74, _, none⟩) hrn300_go74 _).trans (hHeld.2.2.2.1)), ((cell_far (p := ⟨go74, _, none⟩) hrn300_go74 _).trans (hHeld.2.2.2.2))⟩ (fun hHeld => ?_)
                clear hK K
                refine puz_ 20 (some 9) #[true,true,true,true,true,true,true,true,true,true,true,true,true,true,true,true,true,true,true,true,true] rfl rfl (any_of HT_.out (by kernel_rfl)) ?_
                refine done_ (done_of HT_.out (by kernel_rfl)) ?_
                try go_wp2
                (try simp only [← hl6_4])
                go_roundg k4
                case measure => have := HK1.out; have := HK2.out; have := HK3.out; have := HK4.out; omega
                case rel => exact ⟨(y311), (y312), (true), (wrap64 (x54_4 + 1)), rs_, rs_, H', ⟨by have := HK1.out; have := HK2.out; have := HK3.out; have := HK4.out; omega⟩, ⟨by (try simp only [hl6_1]); (try simp only [hl6_2]); (try simp only [hl6_3]); (try simp only [hl6_4]); (with_reducible repeat (first | apply Kd.R_alloc | apply Kd.R_drewN | apply Kd.R_drew)); exact Kd.R_mono (Kd.R_far (p := ⟨go74, (((rd_T71 l0_1 x39_3).f0) : Int).toNat, none⟩) (Kd.R_mono HQ81.out (fun k_ hk => (⟨hk, fun e_ => hk (by rw [e_]; rfl)⟩ : _ ∧ k_ ≠ go74))) (fun _ hk => hk.2) (.int .i64 ((rd_T71 l0_1 x39_3).f1))) (fun _ hk => hk.1)⟩, ⟨by (try simp only [hl6_1]); (try simp only [hl6_2]); (try simp only [hl6_3]); (try simp only [hl6_4]); (with_reducible repeat (first | apply Kd.R_alloc | apply Kd.R_drewN | apply Kd.R_drew)); exact Kd.R_mono HQ82.out (fun _ hk => hk.1)⟩, ⟨by (try simp only [hl6_1]); (try simp only [hl6_2]); (try simp only [hl6_3]); (try simp only [hl6_4]); (with_reducible repeat (first | refine blk_drewN ?_ _ | refine blk_drew ?_ | refine blk_alloc ?_ _)); refine blk_far ?_ (by have h_ := Kd.R_ne HO_7.out BK289.out (by decide); intro e_; exact h_ (by rw [e_]; rfl)) _; (with_reducible repeat (first | refine blk_drewN ?_ _ | refine blk_drew ?_ | refine blk_alloc ?_ _)); refine blk_far ?_ (by have h_ := Kd.R_ne HO_6.out BK289.out (by decide); intro e_; exact h_ (by rw [e_]; rfl)) _; (with_reducible repeat (first | refine blk_drewN ?_ _ | refine blk_drew ?_ | refine blk_alloc ?_ _)); exact BK289.out⟩, ⟨by (try simp only [hl6_1]); (try simp only [hl6_2]); (try simp only [hl6_3]); (try simp only [hl6_4]); (with_reducible repeat (first | refine blk_drewN ?_ _ | refine blk_drew ?_ | refine blk_alloc ?_ _)); refine blk_far ?_ (by have h_ := Kd.R_ne HO_7.out BK300.out (by decide); intro e_; exact h_ (by rw [e_]; rfl)) _; (with_reducible repeat (first | refine blk_drewN ?_ _ | refine blk_drew ?_ | refine blk_alloc ?_ _)); refine blk_far ?_ (by have h_ := Kd.R_ne HO_6.out BK300.out (by decide); intro e_; exact h_ (by rw [e_]; rfl)) _; (with_reducible repeat (first | refine blk_drewN ?_ _ | refine blk_drew ?_ | refine blk_alloc ?_ _)); exact BK300.out⟩, ⟨by repeat (first | (with_reducible first | exact HB.out | apply below_alloc | apply pw_below_drewN | apply below_drew1 | refine below_set ?_ GB25.out | refine below_set ?_ GB74.out | refine below_set ?_ GE289.out | refine below_set ?_ GE300.out | refine below_set ?_ GE307.out) | exact HB.out)⟩⟩
               ·rw [if_neg c71] at H
                have c71b0 := decide_eq_false c71
                clear c71
                have H' := Aside0.mk H
                clear H
                have hix65 : ∀ W_ : World, (Instr.index 112 (.agg #[.int .i64 ((rd_T71 l0_1 x39_3).f0), .int .i64 ((rd_T71 l0_1 x39_3).f1), .int .i64 ((rd_T71 l0_1 x39_3).f1), .int .i64 ((rd_T71 l0_1 x39_3).f0)]) (.int .i64 x54_4)).run Try.prog W_ = .ok (.agg #[.int .i64 ((rd_T71 l0_1 x39_3).f1), .int .i64 ((rd_T71 l0_1 x39_3).f0)]) W_ := fun W_ => by have e_ : (x54_4 : Int) = 1 := (by simpa using (show (x54_4 == 1) = true from (by assumption))); rw [e_]; rfl
                go_wp2_with (first | ((with_reducible refine gate_dst (N := 13) rfl ?_); refine box_event ?hg (N := 13) ?hd (cs := #[.int .i64 0, .int .i64 0]) (t := 111) ?hr ?_; (case hd => rfl); (case hg => rfl); (case hr => first | (go_simp; done) | (go_simp; rfl)); intro gb307 hg w83 hbox hb; have n0_ := Aside0.mk (Kd.R_below (ra_ HO_6.out) hb); have n1_ := Aside0.mk (Kd.R_below (ra_ HO_7.out) hb); have n2_ := Aside0.mk (blk_below (g := gb289) (o := .cells #[.int .i64 a0_0, .slice (some ad299) l0_1.length c0_1] 29 (0, 0)) (bk_ BK289.out) hb); have n3_ := Aside0.mk (blk_below (g := gb300) (o := .cells #[.int .i64 ((rd_T71 l0_1 x39_3).f0), .int .i64 ((rd_T71 l0_1 x39_3).f1), .int .i64 ((rd_T71 l0_1 x39_3).f2)] 71 (0, 0)) (bk_ BK300.out) hb); have n4_ := Aside0.mk (below_step (bl2_ HB.out GE289.out GE300.out) hb); have n5_ := Aside0.mk (hbox); have n6_ := Aside0.mk ((by rw [hg]; exact (below_size (bl2_ HB.out GE289.out GE300.out)) : w.heap.size ≤ gb307)); have n7_ := Aside0.mk ((by rw [hg]; exact (below_size (bl2_ HB.out GE289.out GE300.out)) : w.heap.size ≤ gb307)); have n8_ := Aside0.mk ((by rw [hg]; exact Nat.ne_of_lt (blk_lt (bk_ BK289.out)) : gb289 ≠ gb307)); have n9_ := Aside0.mk ((by rw [hg]; exact Nat.ne_of_gt (blk_lt (bk_ BK289.out)) : gb307 ≠ gb289)); have n10_ := Aside0.mk ((by rw [hg]; exact Nat.ne_of_lt (blk_lt (bk_ BK300.out)) : gb300 ≠ gb307)); have n11_ := Aside0.mk ((by rw [hg]; exact Nat.ne_of_gt (blk_lt (bk_ BK300.out)) : gb307 ≠ gb300)); clear HO_6; clear HO_7; clear BK289; clear BK300; clear HB; have HO_6 := n0_; have HO_7 := n1_; have BK289 := n2_; have BK300 := n3_; have HB := n4_; have BK307 := n5_; have GW307 := n6_; have GE307 := n7_; have NB289_307 := n8_; have NB307_289 := n9_; have NB300_307 := n10_; have NB307_300 := n11_; clear n0_ n1_ n2_ n3_ n4_ n5_ n6_ n7_ n8_ n9_ n10_ n11_; clear hb hbox hg; have hnb84 := NB307_289.out; have hnc84 := NB289_307.out; have hnb85 := NB307_300.out; have hnc85 := NB300_307.out; have hcz86_0 : w83.cell? ⟨gb307, 0, none⟩ = some (.int .i64 0) := (blk_cell BK307.out 0).trans rfl; have hcz86_1 : w83.cell? ⟨gb307, 1, none⟩ = some (.int .i64 0) := (blk_cell BK307.out 1).trans rfl; have hfz86_0 := blk_frozen BK307.out 0; have hfz86_1 := blk_frozen BK307.out 1; have p308 : 0 ≤ (((rd_T71 l0_1 x39_3).f1) : Int) := od_; have q308 : ((rd_T71 l0_1 x39_3).f1) < (x6_4.length : Int) := od_; obtain ⟨ad308, e308, hx308_0⟩ := Kd.at_int (Kd.R_reads' HO_6.out).2.2 ((rd_T71 l0_1 x39_3).f1) p308 q308; obtain rfl : (⟨go25, 0, none⟩ : Addr) = ad308 := (by injection e308); (try first | simp only [add_plain] at hx308_0 | simp only [add_at] at hx308_0 | simp only [Addr.add, Nat.zero_add] at hx308_0); have hn308_0 : (⟨go25, 0, none⟩ : Addr).block ≠ gb307 := Kd.own_blk (Kd.R_ne HO_6.out BK307.out (by decide)); have hn308_1 : (⟨go25, 0, none⟩ : Addr).block ≠ gb307 := Kd.own_blk (Kd.R_ne HO_6.out BK307.out (by decide)); replace hx308_0 := (cell_far (p := ⟨gb307, 0, none⟩) (ab_ hn308_0) (.int .i64 ((rd_T71 l0_1 x39_3).f1))).trans hx308_0; replace hx308_0 := (cell_far (p := ⟨gb307, 1, none⟩) (ab_ hn308_1) (.int .i64 ((rd_T71 l0_1 x39_3).f0))).trans hx308_0; clear hn308_0; clear hn308_1; replace p308 := eq_true p308; replace q308 := eq_true q308; have p309 : 0 ≤ (((rd_T71 l0_1 x39_3).f0) : Int) := od_; have q309 : ((rd_T71 l0_1 x39_3).f0) < (x6_4.length : Int) := od_; obtain ⟨ad309, e309, hx309_0⟩ := Kd.at_int (Kd.R_reads' HO_6.out).2.2 ((rd_T71 l0_1 x39_3).f0) p309 q309; obtain rfl : (⟨go25, 0, none⟩ : Addr) = ad309 := (by injection e309); (try first | simp only [add_plain] at hx309_0 | simp only [add_at] at hx309_0 | simp only [Addr.add, Nat.zero_add] at hx309_0); have hn309_0 : (⟨go25, 0, none⟩ : Addr).block ≠ gb307 := Kd.own_blk (Kd.R_ne HO_6.out BK307.out (by decide)); have hn309_1 : (⟨go25, 0, none⟩ : Addr).block ≠ gb307 := Kd.own_blk (Kd.R_ne HO_6.out BK307.out (by decide)); replace hx309_0 := (cell_far (p := ⟨gb307, 0, none⟩) (ab_ hn309_0) (.int .i64 ((rd_T71 l0_1 x39_3).f1))).trans hx309_0; replace hx309_0 := (cell_far (p := ⟨gb307, 1, none⟩) (ab_ hn309_1) (.int .i64 ((rd_T71 l0_1 x39_3).f0))).trans hx309_0; clear hn309_0; clear hn309_1; replace p309 := eq_true p309; replace q309 := eq_true q309))
                (try simp only [← hl6_4])
                go_roundg k4
                case measure => have := HK1.out; have := HK2.out; have := HK3.out; have := HK4.out; omega
                case rel => exact ⟨(x6_4), (x7_4), (x9_4), (wrap64 (x54_4 + 1)), rs_, rs_, H', ⟨by have := HK1.out; have := HK2.out; have := HK3.out; have := HK4.out; omega⟩, ⟨by (try simp only [hl6_1]); (try simp only [hl6_2]); (try simp only [hl6_3]); (try simp only [hl6_4]); (with_reducible repeat (first | apply Kd.R_alloc | apply Kd.R_drewN | apply Kd.R_drew)); exact Kd.R_mono (Kd.R_far (p := ⟨gb307, 1, none⟩) (Kd.R_far (p := ⟨gb307, 0, none⟩) (Kd.R_types HO_6.out BK307.out (by decide)) (fun _ hk => hk.2) (.int .i64 ((rd_T71 l0_1 x39_3).f1))) (fun _ hk => hk.2) (.int .i64 ((rd_T71 l0_1 x39_3).f0))) (fun _ hk => hk.1)⟩, ⟨by (try simp only [hl6_1]); (try simp only [hl6_2]); (try simp only [hl6_3]); (try simp only [hl6_4]); (with_reducible repeat (first | apply Kd.R_alloc | apply Kd.R_drewN | apply Kd.R_drew)); exact Kd.R_mono (Kd.R_far (p := ⟨gb307, 1, none⟩) (Kd.R_far (p := ⟨gb307, 0, none⟩) (Kd.R_types HO_7.out BK307.out (by decide)) (fun _ hk => hk.2) (.int .i64 ((rd_T71 l0_1 x39_3).f1))) (fun _ hk => hk.2) (.int .i64 ((rd_T71 l0_1 x39_3).f0))) (fun _ hk => hk.1)⟩, ⟨by (try simp only [hl6_1]); (try simp only [hl6_2]); (try simp only [hl6_3]); (try simp only [hl6_4]); (with_reducible repeat (first | refine blk_drewN ?_ _ | refine blk_drew ?_ | refine blk_alloc ?_ _)); refine blk_far ?_ NB289_307.out _; (with_reducible repeat (first | refine blk_drewN ?_ _ | refine blk_drew ?_ | refine blk_alloc ?_ _)); refine blk_far ?_ NB289_307.out _; (with_reducible repeat (first | refine blk_drewN ?_ _ | refine blk_drew ?_ | refine blk_alloc ?_ _)); exact BK289.out⟩, ⟨by (try simp only [hl6_1]); (try simp only [hl6_2]); (try simp only [hl6_3]); (try simp only [hl6_4]); (with_reducible repeat (first | refine blk_drewN ?_ _ | refine blk_drew ?_ | refine blk_alloc ?_ _)); refine blk_far ?_ NB300_307.out _; (with_reducible repeat (first | refine blk_drewN ?_ _ | refine blk_drew ?_ | refine blk_alloc ?_ _)); refine blk_far ?_ NB300_307.out _; (with_reducible repeat (first | refine blk_drewN ?_ _ | refine blk_drew ?_ | refine blk_alloc ?_ _)); exact BK300.out⟩, ⟨bl3_ HB.out GE289.out GE300.out GE307.out⟩⟩
              ·rw [if_neg c68] at H
               have c68b0 := decide_eq_false c68
               clear c68
               have H' := Aside0.mk H
               clear H
               have hix65 : ∀ W_ : World, (Instr.index 112 (.agg #[.int .i64 ((rd_T71 l0_1 x39_3).f0), .int .i64 ((rd_T71 l0_1 x39_3).f1), .int .i64 ((rd_T71 l0_1 x39_3).f1), .int .i64 ((rd_T71 l0_1 x39_3).f0)]) (.int .i64 x54_4)).run Try.prog W_ = .ok (.agg #[.int .i64 ((rd_T71 l0_1 x39_3).f1), .int .i64 ((rd_T71 l0_1 x39_3).f0)]) W_ := fun W_ => by have e_ : (x54_4 : Int) = 1 := (by simpa using (show (x54_4 == 1) = true from (by assumption))); rw [e_]; rfl
               go_wp2_with (first | ((with_reducible refine gate_dst (N := 13) rfl ?_); refine box_event ?hg (N := 13) ?hd (cs := #[.int .i64 0, .int .i64 0]) (t := 111) ?hr ?_; (case hd => rfl); (case hg => rfl); (case hr => first | (go_simp; done) | (go_simp; rfl)); intro gb307 hg w87 hbox hb; have n0_ := Aside0.mk (Kd.R_below (ra_ HO_6.out) hb); have n1_ := Aside0.mk (Kd.R_below (ra_ HO_7.out) hb); have n2_ := Aside0.mk (blk_below (g := gb289) (o := .cells #[.int .i64 a0_0, .slice (some ad299) l0_1.length c0_1] 29 (0, 0)) (bk_ BK289.out) hb); have n3_ := Aside0.mk (blk_below (g := gb300) (o := .cells #[.int .i64 ((rd_T71 l0_1 x39_3).f0), .int .i64 ((rd_T71 l0_1 x39_3).f1), .int .i64 ((rd_T71 l0_1 x39_3).f2)] 71 (0, 0)) (bk_ BK300.out) hb); have n4_ := Aside0.mk (below_step (bl2_ HB.out GE289.out GE300.out) hb); have n5_ := Aside0.mk (hbox); have n6_ := Aside0.mk ((by rw [hg]; exact (below_size (bl2_ HB.out GE289.out GE300.out)) : w.heap.size ≤ gb307)); have n7_ := Aside0.mk ((by rw [hg]; exact (below_size (bl2_ HB.out GE289.out GE300.out)) : w.heap.size ≤ gb307)); have n8_ := Aside0.mk ((by rw [hg]; exact Nat.ne_of_lt (blk_lt (bk_ BK289.out)) : gb289 ≠ gb307)); have n9_ := Aside0.mk ((by rw [hg]; exact Nat.ne_of_gt (blk_lt (bk_ BK289.out)) : gb307 ≠ gb289)); have n10_ := Aside0.mk ((by rw [hg]; exact Nat.ne_of_lt (blk_lt (bk_ BK300.out)) : gb300 ≠ gb307)); have n11_ := Aside0.mk ((by rw [hg]; exact Nat.ne_of_gt (blk_lt (bk_ BK300.out)) : gb307 ≠ gb300)); clear HO_6; clear HO_7; clear BK289; clear BK300; clear HB; have HO_6 := n0_; have HO_7 := n1_; have BK289 := n2_; have BK300 := n3_; have HB := n4_; have BK307 := n5_; have GW307 := n6_; have GE307 := n7_; have NB289_307 := n8_; have NB307_289 := n9_; have NB300_307 := n10_; have NB307_300 := n11_; clear n0_ n1_ n2_ n3_ n4_ n5_ n6_ n7_ n8_ n9_ n10_ n11_; clear hb hbox hg; have hnb88 := NB307_289.out; have hnc88 := NB289_307.out; have hnb89 := NB307_300.out; have hnc89 := NB300_307.out; have hcz90_0 : w87.cell? ⟨gb307, 0, none⟩ = some (.int .i64 0) := (blk_cell BK307.out 0).trans rfl; have hcz90_1 : w87.cell? ⟨gb307, 1, none⟩ = some (.int .i64 0) := (blk_cell BK307.out 1).trans rfl; have hfz90_0 := blk_frozen BK307.out 0; have hfz90_1 := blk_frozen BK307.out 1; have p308 : 0 ≤ (((rd_T71 l0_1 x39_3).f1) : Int) := od_; have q308 : ((rd_T71 l0_1 x39_3).f1) < (x6_4.length : Int) := od_; obtain ⟨ad308, e308, hx308_0⟩ := Kd.at_int (Kd.R_reads' HO_6.out).2.2 ((rd_T71 l0_1 x39_3).f1) p308 q308; obtain rfl : (⟨go25, 0, none⟩ : Addr) = ad308 := (by injection e308); (try first | simp only [add_plain] at hx308_0 | simp only [add_at] at hx308_0 | simp only [Addr.add, Nat.zero_add] at hx308_0); have hn308_0 : (⟨go25, 0, none⟩ : Addr).block ≠ gb307 := Kd.own_blk (Kd.R_ne HO_6.out BK307.out (by decide)); have hn308_1 : (⟨go25, 0, none⟩ : Addr).block ≠ gb307 := Kd.own_blk (Kd.R_ne HO_6.out BK307.out (by decide)); replace hx308_0 := (cell_far (p := ⟨gb307, 0, none⟩) (ab_ hn308_0) (.int .i64 ((rd_T71 l0_1 x39_3).f1))).trans hx308_0; replace hx308_0 := (cell_far (p := ⟨gb307, 1, none⟩) (ab_ hn308_1) (.int .i64 ((rd_T71 l0_1 x39_3).f0))).trans hx308_0; clear hn308_0; clear hn308_1; replace p308 := eq_true p308; replace q308 := eq_true q308))
               (try simp only [← hl6_4])
               go_roundg k4
               case measure => have := HK1.out; have := HK2.out; have := HK3.out; have := HK4.out; omega
               case rel => exact ⟨(x6_4), (x7_4), (x9_4), (wrap64 (x54_4 + 1)), rs_, rs_, H', ⟨by have := HK1.out; have := HK2.out; have := HK3.out; have := HK4.out; omega⟩, ⟨by (try simp only [hl6_1]); (try simp only [hl6_2]); (try simp only [hl6_3]); (try simp only [hl6_4]); (with_reducible repeat (first | apply Kd.R_alloc | apply Kd.R_drewN | apply Kd.R_drew)); exact Kd.R_mono (Kd.R_far (p := ⟨gb307, 1, none⟩) (Kd.R_far (p := ⟨gb307, 0, none⟩) (Kd.R_types HO_6.out BK307.out (by decide)) (fun _ hk => hk.2) (.int .i64 ((rd_T71 l0_1 x39_3).f1))) (fun _ hk => hk.2) (.int .i64 ((rd_T71 l0_1 x39_3).f0))) (fun _ hk => hk.1)⟩, ⟨by (try simp only [hl6_1]); (try simp only [hl6_2]); (try simp only [hl6_3]); (try simp only [hl6_4]); (with_reducible repeat (first | apply Kd.R_alloc | apply Kd.R_drewN | apply Kd.R_drew)); exact Kd.R_mono (Kd.R_far (p := ⟨gb307, 1, none⟩) (Kd.R_far (p := ⟨gb307, 0, none⟩) (Kd.R_types HO_7.out BK307.out (by decide)) (fun _ hk => hk.2) (.int .i64 ((rd_T71 l0_1 x39_3).f1))) (fun _ hk => hk.2) (.int .i64 ((rd_T71 l0_1 x39_3).f0))) (fun _ hk => hk.1)⟩, ⟨by (try simp only [hl6_1]); (try simp only [hl6_2]); (try simp only [hl6_3]); (try simp only [hl6_4]); (with_reducible repeat (first | refine blk_drewN ?_ _ | refine blk_drew ?_ | refine blk_alloc ?_ _)); refine blk_far ?_ NB289_307.out _; (with_reducible repeat (first | refine blk_drewN ?_ _ | refine blk_drew ?_ | refine blk_alloc ?_ _)); refine blk_far ?_ NB289_307.out _; (with_reducible repeat (first | refine blk_drewN ?_ _ | refine blk_drew ?_ | refine blk_alloc ?_ _)); exact BK289.out⟩, ⟨by (try simp only [hl6_1]); (try simp only [hl6_2]); (try simp only [hl6_3]); (try simp only [hl6_4]); (with_reducible repeat (first | refine blk_drewN ?_ _ | refine blk_drew ?_ | refine blk_alloc ?_ _)); refine blk_far ?_ NB300_307.out _; (with_reducible repeat (first | refine blk_drewN ?_ _ | refine blk_drew ?_ | refine blk_alloc ?_ _)); refine blk_far ?_ NB300_307.out _; (with_reducible repeat (first | refine blk_drewN ?_ _ | refine blk_drew ?_ | refine blk_alloc ?_ _)); exact BK300.out⟩, ⟨bl3_ HB.out GE289.out GE300.out GE307.out⟩⟩
            ·rw [if_neg c36] at H
             have c36b0 := decide_eq_false c36
             clear c36
             have H' := Aside0.mk H
             clear H
             go_wp2
             (try simp only [← hl6_3, ← hl6_4])
             go_roundg k4
             case measure => have := HK1.out; have := HK2.out; have := HK3.out; have := HK4.out; omega
             case rel => exact ⟨(x6_4), (x7_4), (x9_4), (wrap64 (x39_3 + 1)), rs_, rs_, H', ⟨by have := HK1.out; have := HK2.out; have := HK3.out; have := HK4.out; omega⟩, ⟨by (try simp only [hl6_1]); (try simp only [hl6_2]); (try simp only [hl6_3]); (try simp only [hl6_4]); (with_reducible repeat (first | apply Kd.R_alloc | apply Kd.R_drewN | apply Kd.R_drew)); exact HO_6.out⟩, ⟨by (try simp only [hl6_1]); (try simp only [hl6_2]); (try simp only [hl6_3]); (try simp only [hl6_4]); (with_reducible repeat (first | apply Kd.R_alloc | apply Kd.R_drewN | apply Kd.R_drew)); exact HO_7.out⟩, ⟨by (try simp only [hl6_1]); (try simp only [hl6_2]); (try simp only [hl6_3]); (try simp only [hl6_4]); (with_reducible repeat (first | refine blk_drewN ?_ _ | refine blk_drew ?_ | refine blk_alloc ?_ _)); exact BK289.out⟩, ⟨bl2_ HB.out GE289.out GE300.out⟩⟩
         ·rw [if_neg c30] at H
          have c30b0 := decide_eq_false c30
          clear c30
          have H' := Aside0.mk H
          clear H
          go_wp2
          (try simp only [← hl6_2, ← hl6_3])
          go_roundg k3
          case measure => have := HK1.out; have := HK2.out; have := HK3.out; omega
          case rel => exact ⟨(x6_3), (x7_3), (x9_3), rs_, H', ⟨by have := HK1.out; have := HK2.out; have := HK3.out; omega⟩, ⟨by (try simp only [hl6_1]); (try simp only [hl6_2]); (try simp only [hl6_3]); (with_reducible repeat (first | apply Kd.R_alloc | apply Kd.R_drewN | apply Kd.R_drew)); exact HO_6.out⟩, ⟨by (try simp only [hl6_1]); (try simp only [hl6_2]); (try simp only [hl6_3]); (with_reducible repeat (first | apply Kd.R_alloc | apply Kd.R_drewN | apply Kd.R_drew)); exact HO_7.out⟩, ⟨by (try simp only [hl6_1]); (try simp only [hl6_2]); (try simp only [hl6_3]); (with_reducible repeat (first | refine blk_drewN ?_ _ | refine blk_drew ?_ | refine blk_alloc ?_ _)); exact BK289.out⟩, ⟨bl1_ HB.out GE289.out⟩⟩
      ·replace c28 := Bool.eq_false_iff.mpr c28
       subst c28
       have H1 : (some (x6_2, x7_2)) = some (r1, r2) := by rw [if_neg (show ¬ (false = true) by decide)] at H; exact H
       clear H
       have H := H1
       clear H1
       simp only [Option.some.injEq, Prod.mk.injEq] at H
       obtain ⟨rfl, rfl⟩ := H
       go_wp2
       go_ret2
       exact ⟨_, _, by first | rfl | (simp [errW_none, errW_some] <;> rfl) | (simp [*, errW_none, errW_some] <;> rfl), ra_ HO_6.out, ra_ HO_7.out, bl1_ HB.out GE289.out⟩

end Go.Proofs.Ytnbhnkpefhdgjaa.I
