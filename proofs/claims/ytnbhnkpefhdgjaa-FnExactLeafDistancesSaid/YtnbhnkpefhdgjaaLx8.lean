/- For functions of the translation: a Lean function each, and that the call of the Go function comes to its answer. Written by this session's own program (myprint.py, over the kit's printer). -/
import Derived.Test.YtnbhnkpefhdgjaaLx0
import Derived.Test.YtnbhnkpefhdgjaaLx5
import Derived.Test.YtnbhnkpefhdgjaaLx6
import Derived.Test.YtnbhnkpefhdgjaaLx7
--compacted
namespace Go.Proofs.Ytnbhnkpefhdgjaa.L
open Go.RowKit Go.Proofs.YtnbhnkpefhdgjaaW.PrintWords Go.Proofs.YtnbhnkpefhdgjaaW.PrintLast Go.Proofs.YtnbhnkpefhdgjaaW.PrintMore
attribute [local go_sem] max2_int min2_int max_two min_two max_three min_three max_four min_four   -- for this text's walks alone
set_option linter.unusedVariables false
set_option linter.unusedSimpArgs false

/-! ### slices_Min_int64_int64: function 63 -/
def slices_Min_int64_int64.l0 : Nat → List Int → Int → Int → Option (Int)
 | 0, _, _, _ => none
 | k + 1, x0, x3, x4 => if x4 < (x0.length : Int) then (if 0 ≤ x4 then (slices_Min_int64_int64.l0 k x0 (mn x3 (rd x0 x4)) (wrap64 (x4 + 1))) else (none)) else (some x3)
def slices_Min_int64_int64.f (k : Nat) (l0 : List Int) : Option (Int) := if (l0.length : Int) < 1 then (none) else (if 0 < (l0.length : Int) then (slices_Min_int64_int64.l0 k l0 (rd l0 0) 1) else (none))
theorem slices_Min_int64_int64.mono_l : ∀ k, (∀ y0 y1 y2, LeO (slices_Min_int64_int64.l0 k y0 y1 y2) (slices_Min_int64_int64.l0 (k + 1) y0 y1 y2))
 | 0 => fun _ _ _ r h => by simp [slices_Min_int64_int64.l0] at h
 | k + 1 => by
  have ih0 := slices_Min_int64_int64.mono_l k
  ·intro y0 y1 y2
   unfold slices_Min_int64_int64.l0
   repeat' first
   | (with_reducible exact ih0 _ _ _)
   | (with_reducible exact LeO.refl _)
   | (with_reducible exact LeO.none _)
   | (with_reducible refine LeO.ite ?_ ?_)
   | (with_reducible refine LeO.bind ?_ (fun _ => ?_))
theorem slices_Min_int64_int64.mono : ∀ a0 k, LeO (slices_Min_int64_int64.f k a0) (slices_Min_int64_int64.f (k + 1) a0) := by
 intro a0 k
 have ih0 := slices_Min_int64_int64.mono_l k
 unfold slices_Min_int64_int64.f
 repeat' first
   | (with_reducible exact ih0 _ _ _)
   | (with_reducible exact LeO.refl _)
   | (with_reducible exact LeO.none _)
   | (with_reducible refine LeO.ite ?_ ?_)
   | (with_reducible refine LeO.bind ?_ (fun _ => ?_))
set_option maxHeartbeats 8000000 in
set_option maxRecDepth 100000 in
theorem slices_Min_int64_int64.calls (k : Nat) (A0 : Option Addr) (c0 : Nat) (l0 : List Int) (r : Int) (w : World) (hr0 : Kd.C (Kd.int .i64) w A0 l0.length l0) (hc0 : l0.length ≤ c0) (h : slices_Min_int64_int64.f k l0 = some r) :
  Calls Try.prog 63 #[.slice A0 l0.length c0] w fun e w' => e = .returned (.int .i64 r) ∧ Below w.heap.size w w' := by
 have HR0 := Aside0.mk hr0
 have HC0 := Aside0.mk hc0
 clear hr0 hc0
 have HB := Aside0.mk (Below.refl w.heap.size w)
 have H : (if (l0.length : Int) < 1 then (none) else (if 0 < (l0.length : Int) then (slices_Min_int64_int64.l0 k l0 (rd l0 0) 1) else (none))) = some r := h
 clear h
 by_cases c2 : (l0.length : Int) < 1
 ·rw [if_pos c2] at H
  exact absurd H (by simp)
 ·rw [if_neg c2] at H
  have c2b0 := decide_eq_false c2
  have c2b1 : decide (l0.length < 1) = false := decide_eq_false (by omega)
  clear c2
  by_cases c3 : 0 < (l0.length : Int)
  rotate_left
  ·exact nope_ c3 H
  rw [if_pos c3] at H
  have c3b0 := decide_eq_true c3
  have c3b1 : decide (0 < l0.length) = true := decide_eq_true (by omega)
  clear c3
  have H' := Aside0.mk H
  clear H
  have p258 : 0 ≤ (0 : Int) := (by omega)
  have q258 : 0 < (l0.length : Int) := od_
  obtain ⟨ad258, e258, hx258_0⟩ := Kd.at_int HR0.out 0 p258 q258
  cases e258
  have qi258 : (0 < l0.length) = True := eq_true (by omega)
  (try rw [show ((0 : Int)).toNat = 0 from rfl] at hx258_0)
  (try rw [Addr.add_zero'] at hx258_0)
  replace p258 := eq_true p258
  replace q258 := eq_true q258
  go_enter Try.func63, Try.ntmps63
  go_wp2
  go_loopg [3, 4] k (fun kq v3 v4 w' => ∃ (x3_1 : Int) (x4_1 : Int), v3 = .int .i64 x3_1 ∧ v4 = .int .i64 x4_1 ∧ Aside0 (slices_Min_int64_int64.l0 kq l0 x3_1 x4_1 = some r) ∧ Aside0 (kq ≤ k) ∧ Aside0 (Below w.heap.size w w'))
  case atStart => exact ⟨(rd l0 0), (1), rs_, rs_, H', ⟨Nat.le_refl _⟩, ⟨bl0_ HB.out⟩⟩
  case round =>
   clear H'
   try clear c2
   try clear c2b0
   try clear c2b1
   try clear p2
   try clear q2
   try clear hx2
   try clear qi2
   try clear c3
   try clear c3b0
   try clear c3b1
   try clear hx258_0
   try clear p258
   try clear q258
   obtain ⟨x3_1, x4_1, rfl, rfl, HA, HK1, HB⟩ := hrel
   cases gk with
   | zero => exact absurd HA.out (by simp [slices_Min_int64_int64.l0])
   | succ k1 =>
    have H := HA.out
    clear HA
    simp only [slices_Min_int64_int64.l0] at H
    by_cases c4 : x4_1 < (l0.length : Int)
    ·rw [if_pos c4] at H
     have c4b0 := decide_eq_true c4
     clear c4
     by_cases c5 : 0 ≤ x4_1
     rotate_left
     ·exact nope_ c5 H
     rw [if_pos c5] at H
     have c5b0 := decide_eq_true c5
     clear c5
     obtain ⟨ji6, hji6⟩ : ∃ j_ : Int, (mn x3_1 (rd l0 x4_1)) = j_ := ⟨_, rfl⟩
     replace H : (slices_Min_int64_int64.l0 k1 l0 ji6 (wrap64 (x4_1 + 1))) = some r := by first | (rw [hji6] at H; exact H) | (simp only [hji6] at H ⊢; exact H)
     have hji6_ : (if (rd l0 x4_1) < x3_1 then (rd l0 x4_1) else x3_1) = ji6 := hji6
     have H' := Aside0.mk H
     clear H
     have p259 : 0 ≤ (x4_1 : Int) := od_
     have q259 : x4_1 < (l0.length : Int) := od_
     obtain ⟨ad259, e259, hx259_0⟩ := Kd.at_int HR0.out x4_1 p259 q259
     obtain rfl : ad258 = ad259 := (by injection e259)
     replace hx259_0 := (HB.out.cell (World.block_lt_of_cell? w _ hx259_0)).trans hx259_0
     replace p259 := eq_true p259
     replace q259 := eq_true q259
     go_wp2
     go_roundg k1
     case measure => have := HK1.out; omega
     case rel => exact ⟨(ji6), (wrap64 (x4_1 + 1)), (by first | rfl | (simp; done) | (simp only [← hji6] <;> (first | rfl | simp)) | (simp [*]; done)), rs_, H', ⟨by have := HK1.out; omega⟩, ⟨bl0_ HB.out⟩⟩
    ·rw [if_neg c4] at H
     have c4b0 := decide_eq_false c4
     clear c4
     obtain rfl := Option.some.inj H
     go_wp2
     go_ret
     exact ⟨re_, bl0_ HB.out⟩

/-! ### impl_ValidTree: function 20 -/
def impl_ValidTree.j0 : Nat → Bool → Int → List (S71) → Option (Bool)
 | 0, _, _, _ => none
 | k + 1, x13, x261000, x261001 => if x13 = true then (some false) else ((impl_Tree_far.f k x261000 x261001 0).bind fun bt263 => ((slices_Min_int64_int64.f k bt263.1).bind fun t269 => (some (decide (t269 ≥ 0)))))
def impl_ValidTree.f (k : Nat) (a0_0 : Int) (l0_1 : List (S71)) : Option (Bool) := (impl_within.f a0_0 2 16).bind fun t261 => (if t261 = true then ((impl_Tree_areEdges.f k a0_0 l0_1).bind fun t262 => (impl_ValidTree.j0 k (!t262) a0_0 l0_1)) else (impl_ValidTree.j0 k true a0_0 l0_1))
theorem impl_ValidTree.mono_l : ∀ k, (∀ y0 y1 y2, LeO (impl_ValidTree.j0 k y0 y1 y2) (impl_ValidTree.j0 (k + 1) y0 y1 y2))
 | 0 => fun _ _ _ r h => by simp [impl_ValidTree.j0] at h
 | k + 1 => by
  have ih0 := impl_ValidTree.mono_l k
  ·intro y0 y1 y2
   unfold impl_ValidTree.j0
   repeat' first
   | (with_reducible exact ih0 _ _ _)
   | (with_reducible exact impl_Tree_areEdges.mono _ _ _)
   | (with_reducible exact impl_Tree_far.mono _ _ _ _)
   | (with_reducible exact slices_Min_int64_int64.mono _ _)
   | (with_reducible exact LeO.refl _)
   | (with_reducible exact LeO.none _)
   | (with_reducible refine LeO.ite ?_ ?_)
   | (with_reducible refine LeO.bind ?_ (fun _ => ?_))
   | exact impl_Tree_areEdges.mono _ _ _
   | exact impl_Tree_far.mono _ _ _ _
   | exact slices_Min_int64_int64.mono _ _
   | exact LeO.none _
   | refine LeO.ite ?_ ?_
   | refine LeO.bind ?_ (fun _ => ?_)
theorem impl_ValidTree.mono : ∀ a0 a1 k, LeO (impl_ValidTree.f k a0 a1) (impl_ValidTree.f (k + 1) a0 a1) := by
 intro a0 a1 k
 have ih0 := impl_ValidTree.mono_l k
 unfold impl_ValidTree.f
 repeat' first
   | (with_reducible exact ih0 _ _ _)
   | (with_reducible exact impl_Tree_areEdges.mono _ _ _)
   | (with_reducible exact impl_Tree_far.mono _ _ _ _)
   | (with_reducible exact slices_Min_int64_int64.mono _ _)
   | (with_reducible exact LeO.refl _)
   | (with_reducible exact LeO.none _)
   | (with_reducible refine LeO.ite ?_ ?_)
   | (with_reducible refine LeO.bind ?_ (fun _ => ?_))
   | exact impl_Tree_areEdges.mono _ _ _
   | exact impl_Tree_far.mono _ _ _ _
   | exact slices_Min_int64_int64.mono _ _
   | exact LeO.none _
   | refine LeO.ite ?_ ?_
   | refine LeO.bind ?_ (fun _ => ?_)
set_option maxHeartbeats 8000000 in
set_option maxRecDepth 100000 in
theorem impl_ValidTree.calls (k : Nat) (a0_0 : Int) (A0_1 : Option Addr) (c0_1 : Nat) (l0_1 : List (S71)) (r : Bool) (w : World) (hr0_1 : Kd.C k71 w A0_1 l0_1.length l0_1) (hc0_1 : l0_1.length ≤ c0_1) (h : impl_ValidTree.f k a0_0 l0_1 = some r) :
  Calls Try.prog 20 #[.agg #[.int .i64 a0_0, .slice A0_1 l0_1.length c0_1]] w fun e w' => e = .returned (.bool r) ∧ Below w.heap.size w w' := by
 have hu29 := Try.underlying29
 have HR0_1 := Aside0.mk hr0_1
 have HC0_1 := Aside0.mk hc0_1
 clear hr0_1 hc0_1
 have HB := Aside0.mk (Below.refl w.heap.size w)
 have H : ((impl_within.f a0_0 2 16).bind fun t261 => (if t261 = true then ((impl_Tree_areEdges.f k a0_0 l0_1).bind fun t262 => (impl_ValidTree.j0 k (!t262) a0_0 l0_1)) else (impl_ValidTree.j0 k true a0_0 l0_1))) = some r := h
 clear h
 have HC2 := Aside0.mk H
 clear H
 go_enter Try.func20, Try.ntmps20
 go_upto_region 1 with (first | ((with_reducible refine gate_dst (N := 1) rfl ?_); refine box_event ?hg (N := 1) ?hd (cs := #[.int .i64 a0_0, .slice A0_1 l0_1.length c0_1]) (t := 29) ?hr ?_; (case hd => rfl); (case hg => rfl); (case hr => first | (go_simp; done) | (go_simp; rfl)); intro gb260 hg w3 hbox hb; have n0_ := Aside0.mk (below_step (bl0_ HB.out) hb); have n1_ := Aside0.mk (hbox); have n2_ := Aside0.mk ((by rw [hg]; exact (below_size (bl0_ HB.out)) : w.heap.size ≤ gb260)); have n3_ := Aside0.mk ((by rw [hg]; exact (below_size (bl0_ HB.out)) : w.heap.size ≤ gb260)); clear HB; have HB := n0_; have BK260 := n1_; have GW260 := n2_; have GE260 := n3_; clear n0_ n1_ n2_ n3_; clear hb hbox hg))
 (try simp only [Act.put, List.setIfInBounds_toArray, List.set_cons_zero, List.set_cons_succ])
 go_cut [13] (fun v13 wc => ∃ (kq : Nat) (x13_1 : Bool), v13 = .bool x13_1 ∧ Aside0 (impl_ValidTree.j0 kq x13_1 a0_0 l0_1 = some r) ∧ Aside0 (kq ≤ k) ∧ Aside0 (wc.heap[gb260]? = some (.cells #[.int .i64 a0_0, (.slice A0_1 l0_1.length c0_1)] 29 (0, 0))) ∧ Aside0 (Below w.heap.size w wc))
 case first =>
  have H := HC2.out
  clear HC2
  replace H := Option.bind_eq_some_iff.mp H
  obtain ⟨t261, A40, H⟩ := H
  replace H : (if t261 = true then ((impl_Tree_areEdges.f k a0_0 l0_1).bind fun t262 => (impl_ValidTree.j0 k (!t262) a0_0 l0_1)) else (impl_ValidTree.j0 k true a0_0 l0_1)) = some r := H
  have A4 := Aside0.mk A40
  clear A40
  by_cases c5 : t261 = true
  ·subst c5
   have H1 : ((impl_Tree_areEdges.f k a0_0 l0_1).bind fun t262 => (impl_ValidTree.j0 k (!t262) a0_0 l0_1)) = some r := by rw [if_pos rfl] at H; exact H
   clear H
   have H := H1
   clear H1
   replace H := Option.bind_eq_some_iff.mp H
   obtain ⟨t262, A60, H⟩ := H
   replace H : (impl_ValidTree.j0 k (!t262) a0_0 l0_1) = some r := H
   have A6 := Aside0.mk A60
   clear A60
   have H' := Aside0.mk H
   clear H
   have hcz7_0 : w3.cell? ⟨gb260, 0, none⟩ = some (.int .i64 a0_0) := (blk_cell BK260.out 0).trans rfl
   have hcz7_1 : w3.cell? ⟨gb260, 1, none⟩ = some (.slice A0_1 l0_1.length c0_1) := (blk_cell BK260.out 1).trans rfl
   have hfz7_0 := blk_frozen BK260.out 0
   have hfz7_1 := blk_frozen BK260.out 1
   go_wp2_with (first | ((with_reducible refine gate_callee (f := 60) rfl ?_); refine goesL_ (some 7) rfl rfl Try.func60 (by kernel_rfl) rfl #[.int .i64 a0_0, .int .i64 2, .int .i64 16] rfl mp_ ?_; (with_reducible refine (impl_within.calls a0_0 2 16 true _ A4.out).mono ?_); rintro e w' ⟨rfl, ⟨nd, rfl⟩⟩; refine ⟨_, rfl, ?_⟩) | (go_at_call 61; (with_reducible refine (impl_Tree_areEdges.calls k a0_0 _ _ l0_1 t262 _ ?side1 ?side2 A6.out).mono ?_); (case side1 => exact ca_ (Kd.C_below HR0_1.out (bl1_ HB.out GE260.out))); (case side2 => exact HC0_1.out); rintro e w8 ⟨rfl, hb⟩; have n0_ := Aside0.mk (blk_below (g := gb260) (o := .cells #[.int .i64 a0_0, .slice A0_1 l0_1.length c0_1] 29 (0, 0)) (bk_ BK260.out) hb); have n1_ := Aside0.mk (below_step (bl1_ HB.out GE260.out) hb); clear BK260; clear HB; have BK260 := n0_; have HB := n1_; clear n0_ n1_; (try clear hb); (try clear hb2); (try clear hk); (try clear hi)))
   go_meet
   case rel => exact ⟨_, (!t262), rs_, H', ⟨by first | omega | exact Nat.le_refl _⟩, ⟨bk_ BK260.out⟩, ⟨bl1_ HB.out GE260.out⟩⟩
  ·replace c5 := Bool.eq_false_iff.mpr c5
   subst c5
   have H1 : (impl_ValidTree.j0 k true a0_0 l0_1) = some r := by rw [if_neg (show ¬ (false = true) by decide)] at H; exact H
   clear H
   have H := H1
   clear H1
   have H' := Aside0.mk H
   clear H
   have hcz9_0 : w3.cell? ⟨gb260, 0, none⟩ = some (.int .i64 a0_0) := (blk_cell BK260.out 0).trans rfl
   have hcz9_1 : w3.cell? ⟨gb260, 1, none⟩ = some (.slice A0_1 l0_1.length c0_1) := (blk_cell BK260.out 1).trans rfl
   have hfz9_0 := blk_frozen BK260.out 0
   have hfz9_1 := blk_frozen BK260.out 1
   go_wp2_with (first | ((with_reducible refine gate_callee (f := 60) rfl ?_); refine goesL_ (some 7) rfl rfl Try.func60 (by kernel_rfl) rfl #[.int .i64 a0_0, .int .i64 2, .int .i64 16] rfl mp_ ?_; (with_reducible refine (impl_within.calls a0_0 2 16 false _ A4.out).mono ?_); rintro e w' ⟨rfl, ⟨nd, rfl⟩⟩; refine ⟨_, rfl, ?_⟩))
   go_meet
   case rel => exact ⟨_, (true), rs_, H', ⟨by first | omega | exact Nat.le_refl _⟩, ⟨bk_ BK260.out⟩, ⟨bl1_ HB.out GE260.out⟩⟩
 case rest =>
  clear HC2
  try clear c2
  try clear p2
  try clear c5
  try clear c6
  try clear hcz7_0
  try clear hcz7_1
  try clear hcz9_0
  try clear hcz9_1
  try clear hfz7_0
  try clear hfz7_1
  try clear hfz9_0
  try clear hfz9_1
  obtain ⟨kq, x13_1, rfl, HA, HJ1, BK260, HB⟩ := hcut
  cases kq with
  | zero => exact absurd HA.out (by simp [impl_ValidTree.j0])
  | succ kj1 =>
   have H := HA.out
   clear HA
   simp only [impl_ValidTree.j0] at H
   by_cases c10 : x13_1 = true
   ·subst c10
    have H1 : (some false) = some r := by rw [if_pos rfl] at H; exact H
    clear H
    have H := H1
    clear H1
    obtain rfl := Option.some.inj H
    go_wp2
    go_ret
    exact ⟨re_, bl1_ HB.out GE260.out⟩
   ·replace c10 := Bool.eq_false_iff.mpr c10
    subst c10
    have H1 : ((impl_Tree_far.f kj1 a0_0 l0_1 0).bind fun bt263 => ((slices_Min_int64_int64.f kj1 bt263.1).bind fun t269 => (some (decide (t269 ≥ 0))))) = some r := by rw [if_neg (show ¬ (false = true) by decide)] at H; exact H
    clear H
    have H := H1
    clear H1
    replace H := Option.bind_eq_some_iff.mp H
    obtain ⟨⟨t263, t266⟩, A110, H⟩ := H
    replace H : ((slices_Min_int64_int64.f kj1 t263).bind fun t269 => (some (decide (t269 ≥ 0)))) = some r := H
    have A11 := Aside0.mk A110
    clear A110
    replace H := Option.bind_eq_some_iff.mp H
    obtain ⟨t269, A120, H⟩ := H
    replace H : (some (decide (t269 ≥ 0))) = some r := H
    have A12 := Aside0.mk A120
    clear A120
    obtain rfl := Option.some.inj H
    have hcz13_0 : wc.cell? ⟨gb260, 0, none⟩ = some (.int .i64 a0_0) := (blk_cell BK260.out 0).trans rfl
    have hcz13_1 : wc.cell? ⟨gb260, 1, none⟩ = some (.slice A0_1 l0_1.length c0_1) := (blk_cell BK260.out 1).trans rfl
    have hfz13_0 := blk_frozen BK260.out 0
    have hfz13_1 := blk_frozen BK260.out 1
    go_wp2_with (first | ((with_reducible refine gate_callee (f := 62) rfl ?_); refine goesL_ (some 16) rfl rfl Try.func62 (by kernel_rfl) rfl #[.agg #[.int .i64 a0_0, .slice A0_1 l0_1.length c0_1], .int .i64 0] rfl mp_ ?_; (with_reducible refine (impl_Tree_far.calls kj1 a0_0 _ _ l0_1 0 t263 t266 _ ?side1 ?side2 A11.out).mono ?_); (case side1 => exact ca_ (Kd.C_below HR0_1.out HB.out)); (case side2 => exact HC0_1.out); rintro e w14 ⟨v264, v267, rfl, ho0, ho1, hb⟩; refine ⟨_, rfl, ?_⟩; have n0_ := Aside0.mk (Kd.R_lower ho0 (below_size (bl1_ HB.out GE260.out))); have n1_ := Aside0.mk (Kd.R_lower ho1 (below_size (bl1_ HB.out GE260.out))); have n2_ := Aside0.mk (blk_below (g := gb260) (o := .cells #[.int .i64 a0_0, .slice A0_1 l0_1.length c0_1] 29 (0, 0)) (bk_ BK260.out) hb); have n3_ := Aside0.mk (below_step (bl1_ HB.out GE260.out) hb); clear BK260; clear HB; have HO265 := n0_; have HO268 := n1_; have BK260 := n2_; have HB := n3_; clear n0_ n1_ n2_ n3_; (try clear hb); (try clear hb2); (try clear hk); (try clear hi); (try clear ho0); (try clear ho1); obtain ⟨Ao15, co15, eo15⟩ := Kd.R_slice HO265.out; subst eo15) | ((with_reducible refine gate_callee (f := 63) rfl ?_); refine goesL_ (some 20) rfl rfl Try.func63 (by kernel_rfl) rfl #[.slice Ao15 t263.length co15] rfl mp_ ?_; (with_reducible refine (slices_Min_int64_int64.calls kj1 _ _ t263 t269 _ ?side1 ?side2 A12.out).mono ?_); (case side1 => exact ca_ (Kd.R_reads' HO265.out).2.2); (case side2 => exact (Kd.R_reads' HO265.out).2.1); rintro e w16 ⟨rfl, hb⟩; refine ⟨_, rfl, ?_⟩; have n0_ := Aside0.mk (Kd.R_below (ra_ HO265.out) hb); have n1_ := Aside0.mk (Kd.R_below (ra_ HO268.out) hb); have n2_ := Aside0.mk (blk_below (g := gb260) (o := .cells #[.int .i64 a0_0, .slice A0_1 l0_1.length c0_1] 29 (0, 0)) (bk_ BK260.out) hb); have n3_ := Aside0.mk (below_step (bl1_ HB.out GE260.out) hb); clear HO265; clear HO268; clear BK260; clear HB; have HO265 := n0_; have HO268 := n1_; have BK260 := n2_; have HB := n3_; clear n0_ n1_ n2_ n3_; (try clear hb); (try clear hb2); (try clear hk); (try clear hi)))
    go_ret
    exact ⟨re_, bl1_ HB.out GE260.out⟩

/-! ### impl_Tree_leaves: function 69 -/
mutual
def impl_Tree_leaves.l0 : Nat → List Int → List (S71) → Int → Int → Option (List Int)
 | 0, _, _, _, _ => none
 | k + 1, x3, x13, x14, x15 => if x15 < x14 then (if 0 ≤ x15 then (if x15 < (x13.length : Int) then (if 0 ≤ ((rd_T71 x13 x15).f0) then (if ((rd_T71 x13 x15).f0) < (x3.length : Int) then ((some (x3.set (((rd_T71 x13 x15).f0) : Int).toNat (wrap64 ((rd x3 ((rd_T71 x13 x15).f0)) + 1)) : List Int)).bind fun y277 => (if 0 ≤ ((rd_T71 x13 x15).f1) then (if ((rd_T71 x13 x15).f1) < (x3.length : Int) then (impl_Tree_leaves.l0 k (y277.set (((rd_T71 x13 x15).f1) : Int).toNat (wrap64 ((rd y277 ((rd_T71 x13 x15).f1)) + 1))) x13 x14 (wrap64 (x15 + 1))) else (none)) else (none))) else (none)) else (none)) else (none)) else (none)) else (impl_Tree_leaves.l1 k ([] : List Int) x3 (x3.length : Int) 0)
def impl_Tree_leaves.l1 : Nat → List Int → List Int → Int → Int → Option (List Int)
 | 0, _, _, _, _ => none
 | k + 1, x6, x34, x35, x36 => if x36 < x35 then (if 0 ≤ x36 then (if x36 < (x34.length : Int) then (if (rd x34 x36) = 1 then (if x6.length < 17592186044416 then (impl_Tree_leaves.l1 k (x6 ++ [x36]) x34 x35 (wrap64 (x36 + 1))) else (none)) else (impl_Tree_leaves.l1 k x6 x34 x35 (wrap64 (x36 + 1)))) else (none)) else (none)) else (some x6)
end
def impl_Tree_leaves.f (k : Nat) (a0_0 : Int) (l0_1 : List (S71)) : Option (List Int) := if 0 ≤ a0_0 then (if (a0_0 : Int).toNat ≤ 35184372088832 then (impl_Tree_leaves.l0 k (List.replicate (a0_0 : Int).toNat 0) l0_1 (l0_1.length : Int) 0) else (none)) else (none)
theorem impl_Tree_leaves.mono_l : ∀ k, (∀ y0 y1 y2 y3, LeO (impl_Tree_leaves.l0 k y0 y1 y2 y3) (impl_Tree_leaves.l0 (k + 1) y0 y1 y2 y3)) ∧ (∀ y0 y1 y2 y3, LeO (impl_Tree_leaves.l1 k y0 y1 y2 y3) (impl_Tree_leaves.l1 (k + 1) y0 y1 y2 y3))
 | 0 => ⟨fun _ _ _ _ r h => by simp [impl_Tree_leaves.l0] at h, fun _ _ _ _ r h => by simp [impl_Tree_leaves.l1] at h⟩
 | k + 1 => by
  obtain ⟨ih0, ih1⟩ := impl_Tree_leaves.mono_l k
  refine ⟨?_, ?_⟩
  ·intro y0 y1 y2 y3
   unfold impl_Tree_leaves.l0
   repeat' first
   | (with_reducible exact ih0 _ _ _ _)
   | (with_reducible exact ih1 _ _ _ _)
   | (with_reducible exact LeO.refl _)
   | (with_reducible exact LeO.none _)
   | (with_reducible refine LeO.ite ?_ ?_)
   | (with_reducible refine LeO.bind ?_ (fun _ => ?_))
  ·intro y0 y1 y2 y3
   unfold impl_Tree_leaves.l1
   repeat' first
   | (with_reducible exact ih0 _ _ _ _)
   | (with_reducible exact ih1 _ _ _ _)
   | (with_reducible exact LeO.refl _)
   | (with_reducible exact LeO.none _)
   | (with_reducible refine LeO.ite ?_ ?_)
   | (with_reducible refine LeO.bind ?_ (fun _ => ?_))
theorem impl_Tree_leaves.mono : ∀ a0 a1 k, LeO (impl_Tree_leaves.f k a0 a1) (impl_Tree_leaves.f (k + 1) a0 a1) := by
 intro a0 a1 k
 obtain ⟨ih0, ih1⟩ := impl_Tree_leaves.mono_l k
 unfold impl_Tree_leaves.f
 repeat' first
   | (with_reducible exact ih0 _ _ _ _)
   | (with_reducible exact ih1 _ _ _ _)
   | (with_reducible exact LeO.refl _)
   | (with_reducible exact LeO.none _)
   | (with_reducible refine LeO.ite ?_ ?_)
   | (with_reducible refine LeO.bind ?_ (fun _ => ?_))
set_option maxHeartbeats 8000000 in
set_option maxRecDepth 100000 in
theorem impl_Tree_leaves.calls (k : Nat) (a0_0 : Int) (A0_1 : Option Addr) (c0_1 : Nat) (l0_1 : List (S71)) (r : List Int) (w : World) (hr0_1 : Kd.C k71 w A0_1 l0_1.length l0_1) (hc0_1 : l0_1.length ≤ c0_1) (h : impl_Tree_leaves.f k a0_0 l0_1 = some r) :
  Calls Try.prog 69 #[.agg #[.int .i64 a0_0, .slice A0_1 l0_1.length c0_1]] w fun e w' => ∃ v0_ : Value, e = .returned (v0_) ∧ Kd.R (Kd.int .i64) 2 w' w.heap.size (fun _ => True) v0_ r ∧ Below w.heap.size w w' := by
 have hu29 := Try.underlying29
 have hu71 := Try.underlying71
 have HR0_1 := Aside0.mk hr0_1
 have HC0_1 := Aside0.mk hc0_1
 clear hr0_1 hc0_1
 have HB := Aside0.mk (Below.refl w.heap.size w)
 have H : (if 0 ≤ a0_0 then (if (a0_0 : Int).toNat ≤ 35184372088832 then (impl_Tree_leaves.l0 k (List.replicate (a0_0 : Int).toNat 0) l0_1 (l0_1.length : Int) 0) else (none)) else (none)) = some r := h
 clear h
 by_cases c2 : 0 ≤ a0_0
 rotate_left
 ·exact nope_ c2 H
 rw [if_pos c2] at H
 have c2b0 := eq_true c2
 have c2b1 := decide_eq_true c2
 clear c2
 by_cases c3 : (a0_0 : Int).toNat ≤ 35184372088832
 rotate_left
 ·exact nope_ c3 H
 rw [if_pos c3] at H
 have c3b0 := eq_true c3
 have c3b1 := decide_eq_true c3
 clear c3
 obtain ⟨y271, hy271⟩ : ∃ y_ : List Int, y_ = (List.replicate (a0_0 : Int).toNat 0) := ⟨_, rfl⟩
 replace H : (impl_Tree_leaves.l0 k y271 l0_1 (l0_1.length : Int) 0) = some r := yh_ H hy271
 have Ny271 := Aside0.mk hy271
 clear hy271
 have H' := Aside0.mk H
 clear H
 go_enter Try.func69, Try.ntmps69
 go_wp2_with (first | ((with_reducible refine gate_dst (N := 1) rfl ?_); refine box_event ?hg (N := 1) ?hd (cs := #[.int .i64 a0_0, .slice A0_1 l0_1.length c0_1]) (t := 29) ?hr ?_; (case hd => rfl); (case hg => rfl); (case hr => first | (go_simp; done) | (go_simp; rfl)); intro gb270 hg w4 hbox hb; have n0_ := Aside0.mk (below_step (bl0_ HB.out) hb); have n1_ := Aside0.mk (hbox); have n2_ := Aside0.mk ((by rw [hg]; exact (below_size (bl0_ HB.out)) : w.heap.size ≤ gb270)); have n3_ := Aside0.mk ((by rw [hg]; exact (below_size (bl0_ HB.out)) : w.heap.size ≤ gb270)); clear HB; have HB := n0_; have BK270 := n1_; have GW270 := n2_; have GE270 := n3_; clear n0_ n1_ n2_ n3_; clear hb hbox hg; have hcz5_0 : w4.cell? ⟨gb270, 0, none⟩ = some (.int .i64 a0_0) := (blk_cell BK270.out 0).trans rfl; have hcz5_1 : w4.cell? ⟨gb270, 1, none⟩ = some (.slice A0_1 l0_1.length c0_1) := (blk_cell BK270.out 1).trans rfl; have hfz5_0 := blk_frozen BK270.out 0; have hfz5_1 := blk_frozen BK270.out 1) | ((with_reducible refine gate_dst (N := 11) rfl ?_); refine Kd.R_make (Kd.int .i64) _ 2 rfl (N := 11) rfl 36 _ _ rfl a0_0 rfl rfl Try.underlying36 (.int .i64 0) 8 info2 rfl (by decide) (by omega) 0 (ok := fun _ => True) (okp := fun _ => True) rfl (fun _ hk => hk) trivial (od_) (Nat.le_trans (Nat.mul_le_mul_right _ (od_ : a0_0.toNat ≤ 35184372088832)) (by omega)) (Below.refl _ _) (Nat.le_refl _) ?_; intro v272 w6 ho7 hb hg_ hnew_; clear hg_ hnew_; (first | rw [← Ny271.out] at ho7 | (simp only [Int.reduceToNat] at ho7; rw [← Ny271.out] at ho7)); have n0_ := Aside0.mk (Kd.R_lower ho7 (below_size (bl1_ HB.out GE270.out))); have n1_ := Aside0.mk (blk_below (g := gb270) (o := .cells #[.int .i64 a0_0, .slice A0_1 l0_1.length c0_1] 29 (0, 0)) (bk_ BK270.out) hb); have n2_ := Aside0.mk (below_step (bl1_ HB.out GE270.out) hb); clear BK270; clear HB; have HO273 := n0_; have BK270 := n1_; have HB := n2_; clear n0_ n1_ n2_; clear hb ho7; have hcz8_0 : w6.cell? ⟨gb270, 0, none⟩ = some (.int .i64 a0_0) := (blk_cell BK270.out 0).trans rfl; have hcz8_1 : w6.cell? ⟨gb270, 1, none⟩ = some (.slice A0_1 l0_1.length c0_1) := (blk_cell BK270.out 1).trans rfl; have hfz8_0 := blk_frozen BK270.out 0; have hfz8_1 := blk_frozen BK270.out 1))
 go_loopg [15] k (fun kq v15 w' => ∃ (x3_1 : List Int) (x15_1 : Int), v15 = .int .i64 x15_1 ∧ Aside0 (impl_Tree_leaves.l0 kq x3_1 l0_1 (l0_1.length : Int) x15_1 = some r) ∧ Aside0 (kq ≤ k) ∧ Aside0 (Kd.R (Kd.int .i64) 2 w' w.heap.size (fun _ => True) v272 x3_1) ∧ Aside0 (w'.heap[gb270]? = some (.cells #[.int .i64 a0_0, (.slice A0_1 l0_1.length c0_1)] 29 (0, 0))) ∧ Aside0 (Below w.heap.size w w'))
 case atStart => exact ⟨(y271), (0), rs_, H', ⟨Nat.le_refl _⟩, ⟨ra_ HO273.out⟩, ⟨bk_ BK270.out⟩, ⟨bl1_ HB.out GE270.out⟩⟩
 case round =>
  clear H'
  try clear c2
  try clear c2b0
  try clear c2b1
  try clear p2
  try clear c3
  try clear c3b0
  try clear c3b1
  try clear c6
  try clear hcz5_0
  try clear hcz5_1
  try clear hcz8_0
  try clear hcz8_1
  try clear hfz5_0
  try clear hfz5_1
  try clear hfz8_0
  try clear hfz8_1
  obtain ⟨x3_1, x15_1, rfl, HA, HK1, HO_3, BK270, HB⟩ := hrel
  cases gk with
  | zero => exact absurd HA.out (by simp [impl_Tree_leaves.l0])
  | succ k1 =>
   have H := HA.out
   clear HA
   simp only [impl_Tree_leaves.l0] at H
   by_cases c9 : x15_1 < (l0_1.length : Int)
   ·rw [if_pos c9] at H
    have c9b0 := decide_eq_true c9
    clear c9
    by_cases c10 : 0 ≤ x15_1
    rotate_left
    ·exact nope_ c10 H
    rw [if_pos c10] at H
    have c10b0 := decide_eq_true c10
    clear c10
    by_cases c11 : x15_1 < (l0_1.length : Int)
    rotate_left
    ·exact nope_ c11 H
    rw [if_pos c11] at H
    have c11b0 := decide_eq_true c11
    clear c11
    by_cases c12 : 0 ≤ ((rd_T71 l0_1 x15_1).f0)
    rotate_left
    ·exact nope_ c12 H
    rw [if_pos c12] at H
    have c12b0 := decide_eq_true c12
    clear c12
    by_cases c13 : ((rd_T71 l0_1 x15_1).f0) < (x3_1.length : Int)
    rotate_left
    ·exact nope_ c13 H
    rw [if_pos c13] at H
    have c13b0 := decide_eq_true c13
    clear c13
    obtain ⟨y277, hy277⟩ : ∃ y_ : List Int, y_ = (x3_1.set (((rd_T71 l0_1 x15_1).f0) : Int).toNat (wrap64 ((rd x3_1 ((rd_T71 l0_1 x15_1).f0)) + 1))) := ⟨_, rfl⟩
    replace H : (if 0 ≤ ((rd_T71 l0_1 x15_1).f1) then (if ((rd_T71 l0_1 x15_1).f1) < (x3_1.length : Int) then (impl_Tree_leaves.l0 k1 (y277.set (((rd_T71 l0_1 x15_1).f1) : Int).toNat (wrap64 ((rd y277 ((rd_T71 l0_1 x15_1).f1)) + 1))) l0_1 (l0_1.length : Int) (wrap64 (x15_1 + 1))) else (none)) else (none)) = some r := yh_ H hy277
    have Ny277 := Aside0.mk hy277
    clear hy277
    by_cases c15 : 0 ≤ ((rd_T71 l0_1 x15_1).f1)
    rotate_left
    ·exact nope_ c15 H
    rw [if_pos c15] at H
    have c15b0 := decide_eq_true c15
    clear c15
    by_cases c16 : ((rd_T71 l0_1 x15_1).f1) < (x3_1.length : Int)
    rotate_left
    ·exact nope_ c16 H
    rw [if_pos c16] at H
    have c16b0 := decide_eq_true c16
    clear c16
    obtain ⟨y279, hy279⟩ : ∃ y_ : List Int, y_ = (y277.set (((rd_T71 l0_1 x15_1).f1) : Int).toNat (wrap64 ((rd y277 ((rd_T71 l0_1 x15_1).f1)) + 1))) := ⟨_, rfl⟩
    replace H : (impl_Tree_leaves.l0 k1 y279 l0_1 (l0_1.length : Int) (wrap64 (x15_1 + 1))) = some r := yh_ H hy279
    have Ny279 := Aside0.mk hy279
    clear hy279
    have H' := Aside0.mk H
    clear H
    have p274 : 0 ≤ (x15_1 : Int) := od_
    have q274 : x15_1 < (l0_1.length : Int) := od_
    obtain ⟨ad274, e274, hx274_0, hx274_1, hx274_2⟩ := at_T71 HR0_1.out x15_1 p274 q274
    cases e274
    replace hx274_0 := (HB.out.cell (World.block_lt_of_cell? w _ hx274_0)).trans hx274_0
    replace hx274_1 := (HB.out.cell (World.block_lt_of_cell? w _ hx274_1)).trans hx274_1
    replace hx274_2 := (HB.out.cell (World.block_lt_of_cell? w _ hx274_2)).trans hx274_2
    replace p274 := eq_true p274
    replace q274 := eq_true q274
    go_wp2_with (first | ((with_reducible refine gate_dst (N := 5) rfl ?_); refine box_event ?hg (N := 5) ?hd (cs := #[.int .i64 0, .int .i64 0, .int .i64 0]) (t := 71) ?hr ?_; (case hd => rfl); (case hg => rfl); (case hr => first | (go_simp; done) | (go_simp; rfl)); intro gb275 hg w18 hbox hb; have n0_ := Aside0.mk (Kd.R_below (ra_ HO_3.out) hb); have n1_ := Aside0.mk (blk_below (g := gb270) (o := .cells #[.int .i64 a0_0, .slice (some ad274) l0_1.length c0_1] 29 (0, 0)) (bk_ BK270.out) hb); have n2_ := Aside0.mk (below_step (bl1_ HB.out GE270.out) hb); have n3_ := Aside0.mk (hbox); have n4_ := Aside0.mk ((by rw [hg]; exact (below_size (bl1_ HB.out GE270.out)) : w.heap.size ≤ gb275)); have n5_ := Aside0.mk ((by rw [hg]; exact (below_size (bl1_ HB.out GE270.out)) : w.heap.size ≤ gb275)); have n6_ := Aside0.mk ((by rw [hg]; exact Nat.ne_of_lt (blk_lt (bk_ BK270.out)) : gb270 ≠ gb275)); have n7_ := Aside0.mk ((by rw [hg]; exact Nat.ne_of_gt (blk_lt (bk_ BK270.out)) : gb275 ≠ gb270)); clear HO_3; clear BK270; clear HB; have HO_3 := n0_; have BK270 := n1_; have HB := n2_; have BK275 := n3_; have GW275 := n4_; have GE275 := n5_; have NB270_275 := n6_; have NB275_270 := n7_; clear n0_ n1_ n2_ n3_ n4_ n5_ n6_ n7_; clear hb hbox hg; have hnb19 := NB275_270.out; have hnc19 := NB270_275.out; have hcz20_0 : w18.cell? ⟨gb275, 0, none⟩ = some (.int .i64 0) := (blk_cell BK275.out 0).trans rfl; have hcz20_1 : w18.cell? ⟨gb275, 1, none⟩ = some (.int .i64 0) := (blk_cell BK275.out 1).trans rfl; have hcz20_2 : w18.cell? ⟨gb275, 2, none⟩ = some (.int .i64 0) := (blk_cell BK275.out 2).trans rfl; have hfz20_0 := blk_frozen BK275.out 0; have hfz20_1 := blk_frozen BK275.out 1; have hfz20_2 := blk_frozen BK275.out 2) | ((with_reducible refine gate_store (t := 71) (p := 5) rfl ?_); refine store_event (t := 71) (p := 5) (v := ?vo_w21) (w1 := (((w18.setCell ⟨gb275, 0, none⟩ (.int .i64 ((rd_T71 l0_1 x15_1).f0))).setCell ⟨gb275, 1, none⟩ (.int .i64 ((rd_T71 l0_1 x15_1).f1))).setCell ⟨gb275, 2, none⟩ (.int .i64 ((rd_T71 l0_1 x15_1).f2)))) ?hg ?ho ?hn ?hr ?_; (case ho => rfl); (case hg => rfl); (case hn => rfl); (case hr => first | (go_simp; done) | (go_simp; rfl)); intro w21 hw; have n0_ : Aside0 (Kd.R (Kd.int .i64) 2 w21 w.heap.size (fun _ => True) v272 x3_1) := ⟨(by rw [hw]; exact (by (with_reducible repeat (first | apply Kd.R_alloc | apply Kd.R_drewN | apply Kd.R_drew)); exact Kd.R_mono (Kd.R_far (p := ⟨gb275, 2, none⟩) (Kd.R_far (p := ⟨gb275, 1, none⟩) (Kd.R_far (p := ⟨gb275, 0, none⟩) (Kd.R_types HO_3.out BK275.out (by decide)) (fun _ hk => hk.2) (.int .i64 ((rd_T71 l0_1 x15_1).f0))) (fun _ hk => hk.2) (.int .i64 ((rd_T71 l0_1 x15_1).f1))) (fun _ hk => hk.2) (.int .i64 ((rd_T71 l0_1 x15_1).f2))) (fun _ hk => trivial)))⟩; have n1_ : Aside0 (w21.heap[gb270]? = some (.cells #[.int .i64 a0_0, .slice (some ad274) l0_1.length c0_1] 29 (0, 0))) := ⟨(by rw [hw]; exact (by (with_reducible repeat (first | refine blk_drewN ?_ _ | refine blk_drew ?_ | refine blk_alloc ?_ _)); refine blk_far ?_ NB270_275.out _; (with_reducible repeat (first | refine blk_drewN ?_ _ | refine blk_drew ?_ | refine blk_alloc ?_ _)); refine blk_far ?_ NB270_275.out _; (with_reducible repeat (first | refine blk_drewN ?_ _ | refine blk_drew ?_ | refine blk_alloc ?_ _)); refine blk_far ?_ NB270_275.out _; (with_reducible repeat (first | refine blk_drewN ?_ _ | refine blk_drew ?_ | refine blk_alloc ?_ _)); exact BK270.out))⟩; have n2_ : Aside0 (w21.heap[gb275]? = some (.cells #[.int .i64 ((rd_T71 l0_1 x15_1).f0), .int .i64 ((rd_T71 l0_1 x15_1).f1), .int .i64 ((rd_T71 l0_1 x15_1).f2)] 71 (0, 0))) := ⟨(by rw [hw]; exact (by (with_reducible repeat (first | refine blk_drewN ?_ _ | refine blk_drew ?_ | refine blk_alloc ?_ _)); refine blk_put (cs := #[.int .i64 ((rd_T71 l0_1 x15_1).f0), .int .i64 ((rd_T71 l0_1 x15_1).f1), .int .i64 0]) ?_ 2 _ rfl; (with_reducible repeat (first | refine blk_drewN ?_ _ | refine blk_drew ?_ | refine blk_alloc ?_ _)); refine blk_put (cs := #[.int .i64 ((rd_T71 l0_1 x15_1).f0), .int .i64 0, .int .i64 0]) ?_ 1 _ rfl; (with_reducible repeat (first | refine blk_drewN ?_ _ | refine blk_drew ?_ | refine blk_alloc ?_ _)); refine blk_put (cs := #[.int .i64 0, .int .i64 0, .int .i64 0]) ?_ 0 _ rfl; (with_reducible repeat (first | refine blk_drewN ?_ _ | refine blk_drew ?_ | refine blk_alloc ?_ _)); exact BK275.out))⟩; have n3_ : Aside0 (Below w.heap.size w w21) := ⟨(by rw [hw]; exact (bl2_ HB.out GE270.out GE275.out))⟩; clear hw; clear HO_3; clear BK270; clear BK275; clear HB; have HO_3 := n0_; have BK270 := n1_; have BK275 := n2_; have HB := n3_; clear n0_ n1_ n2_ n3_; have hcz22_0 : w21.cell? ⟨gb275, 0, none⟩ = some (.int .i64 ((rd_T71 l0_1 x15_1).f0)) := (blk_cell BK275.out 0).trans rfl; have hcz22_1 : w21.cell? ⟨gb275, 1, none⟩ = some (.int .i64 ((rd_T71 l0_1 x15_1).f1)) := (blk_cell BK275.out 1).trans rfl; have hcz22_2 : w21.cell? ⟨gb275, 2, none⟩ = some (.int .i64 ((rd_T71 l0_1 x15_1).f2)) := (blk_cell BK275.out 2).trans rfl; have hfz22_0 := blk_frozen BK275.out 0; have hfz22_1 := blk_frozen BK275.out 1; have hfz22_2 := blk_frozen BK275.out 2; obtain ⟨Ao23, co23, eo23⟩ := Kd.R_slice HO_3.out; subst eo23; have p276 : 0 ≤ (((rd_T71 l0_1 x15_1).f0) : Int) := od_; have q276 : ((rd_T71 l0_1 x15_1).f0) < (x3_1.length : Int) := od_; obtain ⟨ad276, e276, hx276_0⟩ := Kd.at_int (Kd.R_reads' HO_3.out).2.2 ((rd_T71 l0_1 x15_1).f0) p276 q276; cases e276; replace p276 := eq_true p276; replace q276 := eq_true q276; have p14 : 0 ≤ (((rd_T71 l0_1 x15_1).f0) : Int) := od_; have q14 : (((rd_T71 l0_1 x15_1).f0) : Int) < ((x3_1.length : Int) : Int) := od_; obtain ⟨go14, co14, eo14, gb14, gl14, cl14, HG14⟩ := Kd.R_form HO_3.out (by omega); (first | cases eo14 | (injection eo14 with ea_ en_ ec_; (first | subst ea_ | (injection ea_ with ea_; subst ea_)); subst ec_; clear en_)); have GB14 := Aside0.mk gb14; have GG14 := Aside0.mk HG14; clear gb14 gl14 HG14; (first | simp only [add_plain] at hx276_0 | skip); obtain ⟨hx14_0, hf14_0⟩ := Kd.R_celln 0 HO_3.out (((rd_T71 l0_1 x15_1).f0) : Int) p14 q14; replace p14 := eq_true p14; replace q14 := eq_true q14; obtain ⟨hy24_, hz24_⟩ := Kd.R_celln 0 HO_3.out (((rd_T71 l0_1 x15_1).f0) : Int) (od_) (od_); have HP24 := Kd.R_putg HO_3.out (((rd_T71 l0_1 x15_1).f0) : Int) (wrap64 ((rd x3_1 ((rd_T71 l0_1 x15_1).f0)) + 1))) | ((with_reducible refine gate_store (t := 2) (p := 25) rfl ?_); refine store_event (t := 2) (p := 25) (v := ?vo_w25) (w1 := (w21.setCell ⟨go14, (((rd_T71 l0_1 x15_1).f0) : Int).toNat, none⟩ (.int .i64 (wrap64 ((rd x3_1 ((rd_T71 l0_1 x15_1).f0)) + 1))))) ?hg ?ho ?hn ?hr ?_; (case ho => rfl); (case hg => rfl); (case hn => rfl); (case hr => first | (go_simp; done) | (go_simp; rfl)); intro w25 hw; have hg : w21.grownBy w25 (some go14) := (by rw [hw]; exact HP24.2); have hp_ : Kd.R (Kd.int .i64) 2 w25 w.heap.size (fun _ => True) (.slice (some ⟨go14, 0, none⟩) x3_1.length co23) y277 := (by rw [hw, Ny277.out]; exact HP24.1); clear HP24; have n0_ := Aside0.mk (hp_); have n1_ := Aside0.mk (blk_grown (g := gb270) (o := .cells #[.int .i64 a0_0, .slice (some ad274) l0_1.length c0_1] 29 (0, 0)) (bk_ BK270.out) hg (Kd.R_ne HO_3.out BK270.out (by decide))); have n2_ := Aside0.mk (blk_grown (g := gb275) (o := .cells #[.int .i64 ((rd_T71 l0_1 x15_1).f0), .int .i64 ((rd_T71 l0_1 x15_1).f1), .int .i64 ((rd_T71 l0_1 x15_1).f2)] 71 (0, 0)) (bk_ BK275.out) hg (Kd.R_ne HO_3.out BK275.out (by decide))); have n3_ := Aside0.mk ((by rw [hw]; exact below_set (HB.out) GB14.out : Below w.heap.size w w25)); clear HO_3; clear BK270; clear BK275; clear HB; have HO_3 := n0_; have BK270 := n1_; have BK275 := n2_; have HB := n3_; clear n0_ n1_ n2_ n3_; clear hg hw hp_; have hcz26_0 : w25.cell? ⟨gb275, 0, none⟩ = some (.int .i64 ((rd_T71 l0_1 x15_1).f0)) := (blk_cell BK275.out 0).trans rfl; have hcz26_1 : w25.cell? ⟨gb275, 1, none⟩ = some (.int .i64 ((rd_T71 l0_1 x15_1).f1)) := (blk_cell BK275.out 1).trans rfl; have hcz26_2 : w25.cell? ⟨gb275, 2, none⟩ = some (.int .i64 ((rd_T71 l0_1 x15_1).f2)) := (blk_cell BK275.out 2).trans rfl; have hfz26_0 := blk_frozen BK275.out 0; have hfz26_1 := blk_frozen BK275.out 1; have hfz26_2 := blk_frozen BK275.out 2; have p278 : 0 ≤ (((rd_T71 l0_1 x15_1).f1) : Int) := od_; have q278 : ((rd_T71 l0_1 x15_1).f1) < (y277.length : Int) := (by have h_ : (((rd_T71 l0_1 x15_1).f1) : Int) < ((x3_1.length : Int) : Int) := od_; first | (have e_ := (Kd.R_reads' HO_3.out).1; omega) | simpa only [Ny277.out, List.length_set] using h_); have ql278 : ((((rd_T71 l0_1 x15_1).f1) : Int) < ((x3_1.length : Int) : Int)) = True := eq_true (od_); obtain ⟨ad278, e278, hx278_0⟩ := Kd.at_int (Kd.R_reads' HO_3.out).2.2 ((rd_T71 l0_1 x15_1).f1) p278 q278; obtain rfl : (⟨go14, 0, none⟩ : Addr) = ad278 := (by injection e278); (try first | simp only [add_plain] at hx278_0 | simp only [add_at] at hx278_0 | simp only [Addr.add, Nat.zero_add] at hx278_0); replace p278 := eq_true p278; replace q278 := eq_true q278; have p17 : 0 ≤ (((rd_T71 l0_1 x15_1).f1) : Int) := od_; have q17 : (((rd_T71 l0_1 x15_1).f1) : Int) < ((x3_1.length : Int) : Int) := od_; obtain ⟨hx17_0, hf17_0⟩ := Kd.R_celln 0 HO_3.out (((rd_T71 l0_1 x15_1).f1) : Int) p17 q17; replace p17 := eq_true p17; replace q17 := eq_true q17; obtain ⟨hy27_, hz27_⟩ := Kd.R_celln 0 HO_3.out (((rd_T71 l0_1 x15_1).f1) : Int) (od_) (od_); have HP27 := Kd.R_putg HO_3.out (((rd_T71 l0_1 x15_1).f1) : Int) (wrap64 ((rd y277 ((rd_T71 l0_1 x15_1).f1)) + 1))) | ((with_reducible refine gate_store (t := 2) (p := 32) rfl ?_); refine store_event (t := 2) (p := 32) (v := ?vo_w28) (w1 := (w25.setCell ⟨go14, (((rd_T71 l0_1 x15_1).f1) : Int).toNat, none⟩ (.int .i64 (wrap64 ((rd y277 ((rd_T71 l0_1 x15_1).f1)) + 1))))) ?hg ?ho ?hn ?hr ?_; (case ho => rfl); (case hg => rfl); (case hn => rfl); (case hr => first | (go_simp; done) | (go_simp; rfl)); intro w28 hw; have hg : w25.grownBy w28 (some go14) := (by rw [hw]; exact HP27.2); have hp_ : Kd.R (Kd.int .i64) 2 w28 w.heap.size (fun _ => True) (.slice (some ⟨go14, 0, none⟩) x3_1.length co23) y279 := (by rw [hw, Ny279.out]; exact HP27.1); clear HP27; have n0_ := Aside0.mk (hp_); have n1_ := Aside0.mk (blk_grown (g := gb270) (o := .cells #[.int .i64 a0_0, .slice (some ad274) l0_1.length c0_1] 29 (0, 0)) (bk_ BK270.out) hg (Kd.R_ne HO_3.out BK270.out (by decide))); have n2_ := Aside0.mk (blk_grown (g := gb275) (o := .cells #[.int .i64 ((rd_T71 l0_1 x15_1).f0), .int .i64 ((rd_T71 l0_1 x15_1).f1), .int .i64 ((rd_T71 l0_1 x15_1).f2)] 71 (0, 0)) (bk_ BK275.out) hg (Kd.R_ne HO_3.out BK275.out (by decide))); have n3_ := Aside0.mk ((by rw [hw]; exact below_set (HB.out) GB14.out : Below w.heap.size w w28)); clear HO_3; clear BK270; clear BK275; clear HB; have HO_3 := n0_; have BK270 := n1_; have BK275 := n2_; have HB := n3_; clear n0_ n1_ n2_ n3_; clear hg hw hp_))
    go_roundg k1
    case measure => have := HK1.out; omega
    case rel => exact ⟨(y279), (wrap64 (x15_1 + 1)), rs_, H', ⟨by have := HK1.out; omega⟩, ⟨ra_ HO_3.out⟩, ⟨bk_ BK270.out⟩, ⟨bl2_ HB.out GE270.out GE275.out⟩⟩
   ·rw [if_neg c9] at H
    have c9b0 := decide_eq_false c9
    clear c9
    have H' := Aside0.mk H
    clear H
    obtain ⟨Ao29, co29, eo29⟩ := Kd.R_slice HO_3.out
    subst eo29
    go_wp2
    go_loopg [6, 36] k1 (fun kq v6 v36 w' => ∃ (x6_2 : List Int) (x36_2 : Int), v36 = .int .i64 x36_2 ∧ Aside0 (impl_Tree_leaves.l1 kq x6_2 x3_1 (x3_1.length : Int) x36_2 = some r) ∧ Aside0 (kq ≤ k1) ∧ Aside0 (Kd.R (Kd.int .i64) 2 w' w.heap.size (fun k_ => some k_ ≠ ((.slice Ao29 x3_1.length co29) : Value).ownBlock) v6 x6_2) ∧ Aside0 (Kd.R (Kd.int .i64) 2 w' w.heap.size (fun k_ => some k_ ≠ (v6 : Value).ownBlock) (.slice Ao29 x3_1.length co29) x3_1) ∧ Aside0 (w'.heap[gb270]? = some (.cells #[.int .i64 a0_0, (.slice A0_1 l0_1.length c0_1)] 29 (0, 0))) ∧ Aside0 (Below w.heap.size w w'))
    case atStart => exact ⟨(([] : List Int)), (0), rs_, H', ⟨Nat.le_refl _⟩, ⟨by first | exact Kd.R_nil _ _ _ _ _ | exact Kd.N_nil _ _ _ _ _ | exact Kd.V_nil _ _ _ _ _ | exact Kd.Q_nil _ _ _ _ _ | exact Kd.S_nil _ _ _ _ _⟩, ⟨by (with_reducible repeat (first | apply Kd.R_alloc | apply Kd.R_drewN | apply Kd.R_drew)); exact Kd.R_mono HO_3.out (fun _ hk => (by simp [Value.ownBlock]))⟩, ⟨bk_ BK270.out⟩, ⟨bl1_ HB.out GE270.out⟩⟩
    case round =>
     clear H'
     try clear c1
     try clear p1
     try clear q1
     try clear hx1
     try clear hf1
     try clear c2
     try clear c2b0
     try clear c2b1
     try clear p2
     try clear q2
     try clear hx2
     try clear c3
     try clear c3b0
     try clear c3b1
     try clear c6
     try clear p6
     try clear c9
     try clear c9b0
     try clear c10
     try clear c10b0
     try clear c11
     try clear c11b0
     try clear c12
     try clear c12b0
     try clear c13
     try clear c13b0
     try clear p14
     try clear q14
     try clear hx14
     try clear hf14
     try clear c15
     try clear c15b0
     try clear c16
     try clear c16b0
     try clear p17
     try clear q17
     try clear hx17
     try clear hf17
     try clear c19
     try clear p27
     try clear q27
     try clear hx27
     try clear hcz20_0
     try clear hcz20_1
     try clear hcz20_2
     try clear hcz22_0
     try clear hcz22_1
     try clear hcz22_2
     try clear hcz26_0
     try clear hcz26_1
     try clear hcz26_2
     try clear hcz5_0
     try clear hcz5_1
     try clear hcz8_0
     try clear hcz8_1
     try clear hfz20_0
     try clear hfz20_1
     try clear hfz20_2
     try clear hfz22_0
     try clear hfz22_1
     try clear hfz22_2
     try clear hfz26_0
     try clear hfz26_1
     try clear hfz26_2
     try clear hfz5_0
     try clear hfz5_1
     try clear hfz8_0
     try clear hfz8_1
     try clear hx14_0
     try clear hx17_0
     try clear hx274_0
     try clear hx274_1
     try clear hx274_2
     try clear hx276_0
     try clear hx278_0
     try clear p14
     try clear p17
     try clear p2
     try clear p274
     try clear p276
     try clear p278
     try clear q14
     try clear q17
     try clear q274
     try clear q276
     try clear q278
     obtain ⟨x6_2, x36_2, rfl, HA, HK2, HO_6, HO_34, BK270, HB⟩ := hrel
     cases gk with
     | zero => exact absurd HA.out (by simp [impl_Tree_leaves.l1])
     | succ k2 =>
      have H := HA.out
      clear HA
      simp only [impl_Tree_leaves.l1] at H
      by_cases c30 : x36_2 < (x3_1.length : Int)
      ·rw [if_pos c30] at H
       have c30b0 := decide_eq_true c30
       clear c30
       by_cases c31 : 0 ≤ x36_2
       rotate_left
       ·exact nope_ c31 H
       rw [if_pos c31] at H
       have c31b0 := decide_eq_true c31
       clear c31
       by_cases c32 : x36_2 < (x3_1.length : Int)
       rotate_left
       ·exact nope_ c32 H
       rw [if_pos c32] at H
       have c32b0 := decide_eq_true c32
       clear c32
       by_cases c33 : (rd x3_1 x36_2) = 1
       ·rw [if_pos c33] at H
        have c33b0 : ((rd x3_1 x36_2) == 1) = true := beq_iff_eq.mpr c33
        have c33b1 : ((rd x3_1 x36_2) != 1) = false := bne_eq_false_iff_eq.mpr c33
        clear c33
        by_cases c34 : x6_2.length < 17592186044416
        rotate_left
        ·exact nope_ c34 H
        rw [if_pos c34] at H
        have LMc34 := Aside0.mk c34
        clear c34
        obtain ⟨y281, hy281⟩ : ∃ y_ : List Int, y_ = (x6_2 ++ [x36_2]) := ⟨_, rfl⟩
        replace H : (impl_Tree_leaves.l1 k2 y281 x3_1 (x3_1.length : Int) (wrap64 (x36_2 + 1))) = some r := yh_ H hy281
        have Ny281 := Aside0.mk hy281
        clear hy281
        have H' := Aside0.mk H
        clear H
        have p280 : 0 ≤ (x36_2 : Int) := od_
        have q280 : x36_2 < (x3_1.length : Int) := od_
        obtain ⟨ad280, e280, hx280_0⟩ := Kd.at_int (Kd.R_reads' HO_34.out).2.2 x36_2 p280 q280
        cases e280
        replace p280 := eq_true p280
        replace q280 := eq_true q280
        go_wp2_with (first | ((with_reducible refine gate_builtin (b := .append) (xs := #[.tmp 43, .tmp 45]) rfl ?_); at_builtin; refine Kd.R_append (Kd.int .i64) (w0 := w) w.heap.size rfl (.tmp 43) (.tmp 45) 36 2 (.int .i64 0) 8 rfl Try.underlying36 info2 rfl (by decide) (by omega) u6 x6_2 x36_2 [.int .i64 x36_2] (fun k_ => some k_ ≠ (.slice (some ad280) x3_1.length co29 : Value).ownBlock) (fun _ => False) rfl rfl ?aP (fun _ hk => hk.elim) ?aF ?aO ?aB ?aS ?aL ?_; (case aP => exact rfl); (case aB => exact (bl1_ HB.out GE270.out)); (case aF => exact (fun k_ hk => Kd.fresh' (Kd.R_lt (ra_ HO_34.out)) k_ hk)); (case aO => exact (ra_ HO_6.out)); (case aS => exact (below_size (bl1_ HB.out GE270.out))); (case aL => have := LMc34.out; omega); intro v282 w35 ho hb hg hat; rw [← Ny281.out] at ho; have n0_ := Aside0.mk (Kd.R_after (ok := (fun _ => True)) (by (with_reducible repeat (first | apply Kd.R_alloc | apply Kd.R_drewN | apply Kd.R_drew)); exact Kd.R_mono HO_34.out (fun _ hk => ⟨trivial, hk⟩)) hg hat); have n1_ := Aside0.mk (blk_grown (g := gb270) (o := .cells #[.int .i64 a0_0, .slice A0_1 l0_1.length c0_1] 29 (0, 0)) (bk_ BK270.out) hg (Kd.R_ne HO_6.out BK270.out (by decide))); have n2_ := Aside0.mk (hb); have n3_ := Aside0.mk (ho); clear HO_34; clear BK270; clear HB; clear HO_6; have HO_34 := n0_; have BK270 := n1_; have HB := n2_; have HO283 := n3_; clear n0_ n1_ n2_ n3_; clear ho hb hg hat))
        go_roundg k2
        case measure => have := HK1.out; have := HK2.out; omega
        case rel => exact ⟨(y281), (wrap64 (x36_2 + 1)), rs_, H', ⟨by have := HK1.out; have := HK2.out; omega⟩, ⟨ra_ HO283.out⟩, ⟨by (with_reducible repeat (first | apply Kd.R_alloc | apply Kd.R_drewN | apply Kd.R_drew)); exact Kd.R_mono HO_34.out (fun _ hk => hk.2)⟩, ⟨bk_ BK270.out⟩, ⟨bl1_ HB.out GE270.out⟩⟩
       ·rw [if_neg c33] at H
        have c33b0 : ((rd x3_1 x36_2) == 1) = false := beq_eq_false_iff_ne.mpr c33
        have c33b1 : ((rd x3_1 x36_2) != 1) = true := bne_iff_ne.mpr c33
        have H' := Aside0.mk H
        clear H
        have p280 : 0 ≤ (x36_2 : Int) := od_
        have q280 : x36_2 < (x3_1.length : Int) := od_
        obtain ⟨ad280, e280, hx280_0⟩ := Kd.at_int (Kd.R_reads' HO_34.out).2.2 x36_2 p280 q280
        cases e280
        replace p280 := eq_true p280
        replace q280 := eq_true q280
        go_wp2
        go_roundg k2
        case measure => have := HK1.out; have := HK2.out; omega
        case rel => exact ⟨(x6_2), (wrap64 (x36_2 + 1)), rs_, H', ⟨by have := HK1.out; have := HK2.out; omega⟩, ⟨ra_ HO_6.out⟩, ⟨ra_ HO_34.out⟩, ⟨bk_ BK270.out⟩, ⟨bl1_ HB.out GE270.out⟩⟩
      ·rw [if_neg c30] at H
       have c30b0 := decide_eq_false c30
       clear c30
       obtain rfl := Option.some.inj H
       go_wp2
       go_ret
       exact ⟨_, re_, by (with_reducible repeat (first | apply Kd.R_alloc | apply Kd.R_drewN | apply Kd.R_drew)); exact Kd.R_mono HO_6.out (fun _ hk => trivial), bl1_ HB.out GE270.out⟩

/-! ### impl_chosen: function 94 -/
def impl_chosen.l0 : Nat → List Int → List Int → List Int → Int → Int → Option (List Int)
 | 0, _, _, _, _, _ => none
 | k + 1, x0, x5, x8, x9, x10 => if x10 < x9 then (if 0 ≤ x10 then (if x10 < (x8.length : Int) then (if 0 ≤ (rd x8 x10) then (if (rd x8 x10) < (x0.length : Int) then (if x5.length < 17592186044416 then (impl_chosen.l0 k x0 (x5 ++ [rd x0 (rd x8 x10)]) x8 x9 (wrap64 (x10 + 1))) else (none)) else (none)) else (none)) else (none)) else (none)) else (some x5)
def impl_chosen.f (k : Nat) (l0 : List Int) (l1 : List Int) : Option (List Int) := impl_chosen.l0 k l0 ([] : List Int) l1 (l1.length : Int) 0
theorem impl_chosen.mono_l : ∀ k, (∀ y0 y1 y2 y3 y4, LeO (impl_chosen.l0 k y0 y1 y2 y3 y4) (impl_chosen.l0 (k + 1) y0 y1 y2 y3 y4))
 | 0 => fun _ _ _ _ _ r h => by simp [impl_chosen.l0] at h
 | k + 1 => by
  have ih0 := impl_chosen.mono_l k
  ·intro y0 y1 y2 y3 y4
   unfold impl_chosen.l0
   repeat' first
   | (with_reducible exact ih0 _ _ _ _ _)
   | (with_reducible exact LeO.refl _)
   | (with_reducible exact LeO.none _)
   | (with_reducible refine LeO.ite ?_ ?_)
   | (with_reducible refine LeO.bind ?_ (fun _ => ?_))
theorem impl_chosen.mono : ∀ a0 a1 k, LeO (impl_chosen.f k a0 a1) (impl_chosen.f (k + 1) a0 a1) := by
 intro a0 a1 k
 have ih0 := impl_chosen.mono_l k
 unfold impl_chosen.f
 repeat' first
   | (with_reducible exact ih0 _ _ _ _ _)
   | (with_reducible exact LeO.refl _)
   | (with_reducible exact LeO.none _)
   | (with_reducible refine LeO.ite ?_ ?_)
   | (with_reducible refine LeO.bind ?_ (fun _ => ?_))
set_option maxHeartbeats 8000000 in
set_option maxRecDepth 100000 in
theorem impl_chosen.calls (k : Nat) (A0 : Option Addr) (c0 : Nat) (l0 : List Int) (A1 : Option Addr) (c1 : Nat) (l1 : List Int) (r : List Int) (w : World) (hr0 : Kd.C (Kd.int .i64) w A0 l0.length l0) (hc0 : l0.length ≤ c0) (hr1 : Kd.C (Kd.int .i64) w A1 l1.length l1) (hc1 : l1.length ≤ c1) (h : impl_chosen.f k l0 l1 = some r) :
  Calls Try.prog 94 #[.slice A0 l0.length c0, .slice A1 l1.length c1] w fun e w' => ∃ v0_ : Value, e = .returned (v0_) ∧ Kd.R (Kd.int .i64) 2 w' w.heap.size (fun _ => True) v0_ r ∧ Below w.heap.size w w' := by
 have HR0 := Aside0.mk hr0
 have HC0 := Aside0.mk hc0
 clear hr0 hc0
 have HR1 := Aside0.mk hr1
 have HC1 := Aside0.mk hc1
 clear hr1 hc1
 have HB := Aside0.mk (Below.refl w.heap.size w)
 have H : (impl_chosen.l0 k l0 ([] : List Int) l1 (l1.length : Int) 0) = some r := h
 clear h
 have H' := Aside0.mk H
 clear H
 go_enter Try.func94, Try.ntmps94
 go_wp2
 go_loopg [5, 10] k (fun kq v5 v10 w' => ∃ (x5_1 : List Int) (x10_1 : Int), v10 = .int .i64 x10_1 ∧ Aside0 (impl_chosen.l0 kq l0 x5_1 l1 (l1.length : Int) x10_1 = some r) ∧ Aside0 (kq ≤ k) ∧ Aside0 (Kd.R (Kd.int .i64) 2 w' w.heap.size (fun _ => True) v5 x5_1) ∧ Aside0 (Below w.heap.size w w'))
 case atStart => exact ⟨(([] : List Int)), (0), rs_, H', ⟨Nat.le_refl _⟩, ⟨by first | exact Kd.R_nil _ _ _ _ _ | exact Kd.N_nil _ _ _ _ _ | exact Kd.V_nil _ _ _ _ _ | exact Kd.Q_nil _ _ _ _ _ | exact Kd.S_nil _ _ _ _ _⟩, ⟨bl0_ HB.out⟩⟩
 case round =>
  clear H'
  try clear c1
  try clear p2
  obtain ⟨x5_1, x10_1, rfl, HA, HK1, HO_5, HB⟩ := hrel
  cases gk with
  | zero => exact absurd HA.out (by simp [impl_chosen.l0])
  | succ k1 =>
   have H := HA.out
   clear HA
   simp only [impl_chosen.l0] at H
   by_cases c3 : x10_1 < (l1.length : Int)
   ·rw [if_pos c3] at H
    have c3b0 := decide_eq_true c3
    clear c3
    by_cases c4 : 0 ≤ x10_1
    rotate_left
    ·exact nope_ c4 H
    rw [if_pos c4] at H
    have c4b0 := decide_eq_true c4
    clear c4
    by_cases c5 : x10_1 < (l1.length : Int)
    rotate_left
    ·exact nope_ c5 H
    rw [if_pos c5] at H
    have c5b0 := decide_eq_true c5
    clear c5
    by_cases c6 : 0 ≤ (rd l1 x10_1)
    rotate_left
    ·exact nope_ c6 H
    rw [if_pos c6] at H
    have c6b0 := decide_eq_true c6
    clear c6
    by_cases c7 : (rd l1 x10_1) < (l0.length : Int)
    rotate_left
    ·exact nope_ c7 H
    rw [if_pos c7] at H
    have c7b0 := decide_eq_true c7
    clear c7
    by_cases c8 : x5_1.length < 17592186044416
    rotate_left
    ·exact nope_ c8 H
    rw [if_pos c8] at H
    have LMc8 := Aside0.mk c8
    clear c8
    obtain ⟨y286, hy286⟩ : ∃ y_ : List Int, y_ = (x5_1 ++ [rd l0 (rd l1 x10_1)]) := ⟨_, rfl⟩
    replace H : (impl_chosen.l0 k1 l0 y286 l1 (l1.length : Int) (wrap64 (x10_1 + 1))) = some r := yh_ H hy286
    have Ny286 := Aside0.mk hy286
    clear hy286
    have H' := Aside0.mk H
    clear H
    have p284 : 0 ≤ (x10_1 : Int) := od_
    have q284 : x10_1 < (l1.length : Int) := od_
    obtain ⟨ad284, e284, hx284_0⟩ := Kd.at_int HR1.out x10_1 p284 q284
    cases e284
    replace hx284_0 := (HB.out.cell (World.block_lt_of_cell? w _ hx284_0)).trans hx284_0
    replace p284 := eq_true p284
    replace q284 := eq_true q284
    have p285 : 0 ≤ ((rd l1 x10_1) : Int) := od_
    have q285 : (rd l1 x10_1) < (l0.length : Int) := od_
    obtain ⟨ad285, e285, hx285_0⟩ := Kd.at_int HR0.out (rd l1 x10_1) p285 q285
    cases e285
    replace hx285_0 := (HB.out.cell (World.block_lt_of_cell? w _ hx285_0)).trans hx285_0
    replace p285 := eq_true p285
    replace q285 := eq_true q285
    go_wp2_with (first | ((with_reducible refine gate_builtin (b := .append) (xs := #[.tmp 14, .tmp 19]) rfl ?_); at_builtin; refine Kd.R_append (Kd.int .i64) (w0 := w) w.heap.size rfl (.tmp 14) (.tmp 19) 36 2 (.int .i64 0) 8 rfl Try.underlying36 info2 rfl (by decide) (by omega) u5 x5_1 (rd l0 (rd l1 x10_1)) [.int .i64 (rd l0 (rd l1 x10_1))] (fun _ => True) (fun _ => False) rfl rfl ?aP (fun _ hk => hk.elim) ?aF ?aO ?aB ?aS ?aL ?_; (case aP => exact rfl); (case aB => exact (bl0_ HB.out)); (case aF => exact (fun _ _ => trivial)); (case aO => exact (ra_ HO_5.out)); (case aS => exact (below_size (bl0_ HB.out))); (case aL => have := LMc8.out; omega); intro v287 w9 ho hb hg hat; rw [← Ny286.out] at ho; have n0_ := Aside0.mk (hb); have n1_ := Aside0.mk (ho); clear HB; clear HO_5; have HB := n0_; have HO288 := n1_; clear n0_ n1_; clear ho hb hg hat))
    go_roundg k1
    case measure => have := HK1.out; omega
    case rel => exact ⟨(y286), (wrap64 (x10_1 + 1)), rs_, H', ⟨by have := HK1.out; omega⟩, ⟨ra_ HO288.out⟩, ⟨bl0_ HB.out⟩⟩
   ·rw [if_neg c3] at H
    have c3b0 := decide_eq_false c3
    clear c3
    obtain rfl := Option.some.inj H
    go_wp2
    go_ret
    exact ⟨_, re_, ra_ HO_5.out, bl0_ HB.out⟩

/-! ### impl_Tree_leafDistances: function 71 -/
def impl_Tree_leafDistances.l0 : Nat → List Int → List (List Int) → List Int → Int → Int → Int → List (S71) → Option ((List (List Int)))
 | 0, _, _, _, _, _, _, _ => none
 | k + 1, x3, x4, x11, x12, x13, x290000, x290001 => if x13 < x12 then (if 0 ≤ x13 then (if x13 < (x11.length : Int) then ((impl_Tree_far.f k x290000 x290001 (rd x11 x13)).bind fun bt294 => ((impl_chosen.f k bt294.1 x3).bind fun t300 => (if x4.length < 5864062014805 then (impl_Tree_leafDistances.l0 k x3 (x4 ++ [t300]) x11 x12 (wrap64 (x13 + 1)) x290000 x290001) else (none)))) else (none)) else (none)) else (some x4)
def impl_Tree_leafDistances.f (k : Nat) (a0_0 : Int) (l0_1 : List (S71)) : Option ((List (List Int))) := (impl_Tree_leaves.f k a0_0 l0_1).bind fun t290 => (impl_Tree_leafDistances.l0 k t290 ([] : List (List Int)) t290 (t290.length : Int) 0 a0_0 l0_1)
theorem impl_Tree_leafDistances.mono_l : ∀ k, (∀ y0 y1 y2 y3 y4 y5 y6, LeO (impl_Tree_leafDistances.l0 k y0 y1 y2 y3 y4 y5 y6) (impl_Tree_leafDistances.l0 (k + 1) y0 y1 y2 y3 y4 y5 y6))
 | 0 => fun _ _ _ _ _ _ _ r h => by simp [impl_Tree_leafDistances.l0] at h
 | k + 1 => by
  have ih0 := impl_Tree_leafDistances.mono_l k
  ·intro y0 y1 y2 y3 y4 y5 y6
   unfold impl_Tree_leafDistances.l0
   repeat' first
   | (with_reducible exact ih0 _ _ _ _ _ _ _)
   | (with_reducible exact impl_Tree_far.mono _ _ _ _)
   | (with_reducible exact impl_Tree_leaves.mono _ _ _)
   | (with_reducible exact impl_chosen.mono _ _ _)
   | (with_reducible exact LeO.refl _)
   | (with_reducible exact LeO.none _)
   | (with_reducible refine LeO.ite ?_ ?_)
   | (with_reducible refine LeO.bind ?_ (fun _ => ?_))
   | exact impl_Tree_far.mono _ _ _ _
   | exact impl_Tree_leaves.mono _ _ _
   | exact impl_chosen.mono _ _ _
   | exact LeO.none _
   | refine LeO.ite ?_ ?_
   | refine LeO.bind ?_ (fun _ => ?_)
theorem impl_Tree_leafDistances.mono : ∀ a0 a1 k, LeO (impl_Tree_leafDistances.f k a0 a1) (impl_Tree_leafDistances.f (k + 1) a0 a1) := by
 intro a0 a1 k
 have ih0 := impl_Tree_leafDistances.mono_l k
 unfold impl_Tree_leafDistances.f
 repeat' first
   | (with_reducible exact ih0 _ _ _ _ _ _ _)
   | (with_reducible exact impl_Tree_far.mono _ _ _ _)
   | (with_reducible exact impl_Tree_leaves.mono _ _ _)
   | (with_reducible exact impl_chosen.mono _ _ _)
   | (with_reducible exact LeO.refl _)
   | (with_reducible exact LeO.none _)
   | (with_reducible refine LeO.ite ?_ ?_)
   | (with_reducible refine LeO.bind ?_ (fun _ => ?_))
   | exact impl_Tree_far.mono _ _ _ _
   | exact impl_Tree_leaves.mono _ _ _
   | exact impl_chosen.mono _ _ _
   | exact LeO.none _
   | refine LeO.ite ?_ ?_
   | refine LeO.bind ?_ (fun _ => ?_)
set_option maxHeartbeats 8000000 in
set_option maxRecDepth 100000 in
theorem impl_Tree_leafDistances.calls (k : Nat) (a0_0 : Int) (A0_1 : Option Addr) (c0_1 : Nat) (l0_1 : List (S71)) (r : List (List Int)) (w : World) (hr0_1 : Kd.C k71 w A0_1 l0_1.length l0_1) (hc0_1 : l0_1.length ≤ c0_1) (h : impl_Tree_leafDistances.f k a0_0 l0_1 = some r) :
  Calls Try.prog 71 #[.agg #[.int .i64 a0_0, .slice A0_1 l0_1.length c0_1]] w fun e w' => ∃ v0_ : Value, e = .returned (v0_) ∧ Kd.S (Kd.slice 2 (Kd.int .i64)) 36 w' w.heap.size (fun _ => True) v0_ r ∧ Below w.heap.size w w' := by
 have hu29 := Try.underlying29
 have HR0_1 := Aside0.mk hr0_1
 have HC0_1 := Aside0.mk hc0_1
 clear hr0_1 hc0_1
 have HB := Aside0.mk (Below.refl w.heap.size w)
 have H : ((impl_Tree_leaves.f k a0_0 l0_1).bind fun t290 => (impl_Tree_leafDistances.l0 k t290 ([] : List (List Int)) t290 (t290.length : Int) 0 a0_0 l0_1)) = some r := h
 clear h
 replace H := Option.bind_eq_some_iff.mp H
 obtain ⟨t290, A20, H⟩ := H
 replace H : (impl_Tree_leafDistances.l0 k t290 ([] : List (List Int)) t290 (t290.length : Int) 0 a0_0 l0_1) = some r := H
 have A2 := Aside0.mk A20
 clear A20
 have H' := Aside0.mk H
 clear H
 go_enter Try.func71, Try.ntmps71
 go_wp2_with (first | ((with_reducible refine gate_dst (N := 1) rfl ?_); refine box_event ?hg (N := 1) ?hd (cs := #[.int .i64 a0_0, .slice A0_1 l0_1.length c0_1]) (t := 29) ?hr ?_; (case hd => rfl); (case hg => rfl); (case hr => first | (go_simp; done) | (go_simp; rfl)); intro gb289 hg w3 hbox hb; have n0_ := Aside0.mk (below_step (bl0_ HB.out) hb); have n1_ := Aside0.mk (hbox); have n2_ := Aside0.mk ((by rw [hg]; exact (below_size (bl0_ HB.out)) : w.heap.size ≤ gb289)); have n3_ := Aside0.mk ((by rw [hg]; exact (below_size (bl0_ HB.out)) : w.heap.size ≤ gb289)); clear HB; have HB := n0_; have BK289 := n1_; have GW289 := n2_; have GE289 := n3_; clear n0_ n1_ n2_ n3_; clear hb hbox hg; have hcz4_0 : w3.cell? ⟨gb289, 0, none⟩ = some (.int .i64 a0_0) := (blk_cell BK289.out 0).trans rfl; have hcz4_1 : w3.cell? ⟨gb289, 1, none⟩ = some (.slice A0_1 l0_1.length c0_1) := (blk_cell BK289.out 1).trans rfl; have hfz4_0 := blk_frozen BK289.out 0; have hfz4_1 := blk_frozen BK289.out 1) | ((with_reducible refine gate_callee (f := 69) rfl ?_); refine goesL_ (some 10) rfl rfl Try.func69 (by kernel_rfl) rfl #[.agg #[.int .i64 a0_0, .slice A0_1 l0_1.length c0_1]] rfl mp_ ?_; (with_reducible refine (impl_Tree_leaves.calls k a0_0 _ _ l0_1 t290 _ ?side1 ?side2 A2.out).mono ?_); (case side1 => exact ca_ (Kd.C_below HR0_1.out HB.out)); (case side2 => exact HC0_1.out); rintro e w5 ⟨v291, rfl, ho0, hb⟩; refine ⟨_, rfl, ?_⟩; have n0_ := Aside0.mk (Kd.R_lower ho0 (below_size (bl1_ HB.out GE289.out))); have n1_ := Aside0.mk (blk_below (g := gb289) (o := .cells #[.int .i64 a0_0, .slice A0_1 l0_1.length c0_1] 29 (0, 0)) (bk_ BK289.out) hb); have n2_ := Aside0.mk (below_step (bl1_ HB.out GE289.out) hb); clear BK289; clear HB; have HO292 := n0_; have BK289 := n1_; have HB := n2_; clear n0_ n1_ n2_; (try clear hb); (try clear hb2); (try clear hk); (try clear hi); (try clear ho0); obtain ⟨Ao6, co6, eo6⟩ := Kd.R_slice HO292.out; subst eo6))
 go_loopg [4, 13] k (fun kq v4 v13 w' => ∃ (x4_1 : List (List Int)) (x13_1 : Int), v13 = .int .i64 x13_1 ∧ Aside0 (impl_Tree_leafDistances.l0 kq t290 x4_1 t290 (t290.length : Int) x13_1 a0_0 l0_1 = some r) ∧ Aside0 (kq ≤ k) ∧ Aside0 (Kd.R (Kd.int .i64) 2 w' w.heap.size (fun _ => True) (.slice Ao6 t290.length co6) t290) ∧ Aside0 (Kd.S (Kd.slice 2 (Kd.int .i64)) 36 w' w.heap.size (fun k_ => some k_ ≠ ((.slice Ao6 t290.length co6) : Value).ownBlock ∧ some k_ ≠ ((.slice Ao6 t290.length co6) : Value).ownBlock) v4 x4_1) ∧ Aside0 (Kd.R (Kd.int .i64) 2 w' w.heap.size (fun _ => True) (.slice Ao6 t290.length co6) t290) ∧ Aside0 (w'.heap[gb289]? = some (.cells #[.int .i64 a0_0, (.slice A0_1 l0_1.length c0_1)] 29 (0, 0))) ∧ Aside0 (Below w.heap.size w w'))
 case atStart => exact ⟨(([] : List (List Int))), (0), rs_, H', ⟨Nat.le_refl _⟩, ⟨ra_ HO292.out⟩, ⟨by first | exact Kd.S_nil _ _ _ _ _ | exact Kd.N_nil _ _ _ _ _ | exact Kd.V_nil _ _ _ _ _ | exact Kd.Q_nil _ _ _ _ _ | exact Kd.R_nil _ _ _ _ _⟩, ⟨ra_ HO292.out⟩, ⟨bk_ BK289.out⟩, ⟨bl1_ HB.out GE289.out⟩⟩
 case round =>
  clear H'
  try clear p2
  try clear c6
  try clear hcz4_0
  try clear hcz4_1
  try clear hfz4_0
  try clear hfz4_1
  obtain ⟨x4_1, x13_1, rfl, HA, HK1, HO_3, HO_4, HO_11, BK289, HB⟩ := hrel
  cases gk with
  | zero => exact absurd HA.out (by simp [impl_Tree_leafDistances.l0])
  | succ k1 =>
   have H := HA.out
   clear HA
   simp only [impl_Tree_leafDistances.l0] at H
   by_cases c7 : x13_1 < (t290.length : Int)
   ·rw [if_pos c7] at H
    have c7b0 := decide_eq_true c7
    clear c7
    by_cases c8 : 0 ≤ x13_1
    rotate_left
    ·exact nope_ c8 H
    rw [if_pos c8] at H
    have c8b0 := decide_eq_true c8
    clear c8
    by_cases c9 : x13_1 < (t290.length : Int)
    rotate_left
    ·exact nope_ c9 H
    rw [if_pos c9] at H
    have c9b0 := decide_eq_true c9
    clear c9
    replace H := Option.bind_eq_some_iff.mp H
    obtain ⟨⟨t294, t297⟩, A100, H⟩ := H
    replace H : ((impl_chosen.f k1 t294 t290).bind fun t300 => (if x4_1.length < 5864062014805 then (impl_Tree_leafDistances.l0 k1 t290 (x4_1 ++ [t300]) t290 (t290.length : Int) (wrap64 (x13_1 + 1)) a0_0 l0_1) else (none))) = some r := H
    have A10 := Aside0.mk A100
    clear A100
    replace H := Option.bind_eq_some_iff.mp H
    obtain ⟨t300, A110, H⟩ := H
    replace H : (if x4_1.length < 5864062014805 then (impl_Tree_leafDistances.l0 k1 t290 (x4_1 ++ [t300]) t290 (t290.length : Int) (wrap64 (x13_1 + 1)) a0_0 l0_1) else (none)) = some r := H
    have A11 := Aside0.mk A110
    clear A110
    by_cases c12 : x4_1.length < 5864062014805
    rotate_left
    ·exact nope_ c12 H
    rw [if_pos c12] at H
    have LMc12 := Aside0.mk c12
    clear c12
    obtain ⟨y303, hy303⟩ : ∃ y_ : List (List Int), y_ = (x4_1 ++ [t300]) := ⟨_, rfl⟩
    replace H : (impl_Tree_leafDistances.l0 k1 t290 y303 t290 (t290.length : Int) (wrap64 (x13_1 + 1)) a0_0 l0_1) = some r := yh_ H hy303
    have Ny303 := Aside0.mk hy303
    clear hy303
    have H' := Aside0.mk H
    clear H
    have p293 : 0 ≤ (x13_1 : Int) := od_
    have q293 : x13_1 < (t290.length : Int) := od_
    obtain ⟨ad293, e293, hx293_0⟩ := Kd.at_int (Kd.R_reads' HO_11.out).2.2 x13_1 p293 q293
    cases e293
    replace p293 := eq_true p293
    replace q293 := eq_true q293
    have hcz13_0 : wr.cell? ⟨gb289, 0, none⟩ = some (.int .i64 a0_0) := (blk_cell BK289.out 0).trans rfl
    have hcz13_1 : wr.cell? ⟨gb289, 1, none⟩ = some (.slice A0_1 l0_1.length c0_1) := (blk_cell BK289.out 1).trans rfl
    have hfz13_0 := blk_frozen BK289.out 0
    have hfz13_1 := blk_frozen BK289.out 1
    go_wp2_with (first | ((with_reducible refine gate_callee (f := 62) rfl ?_); refine goesL_ (some 20) rfl rfl Try.func62 (by kernel_rfl) rfl #[.agg #[.int .i64 a0_0, .slice A0_1 l0_1.length c0_1], .int .i64 (rd t290 x13_1)] rfl mp_ ?_; (with_reducible refine (impl_Tree_far.calls k1 a0_0 _ _ l0_1 (rd t290 x13_1) t294 t297 _ ?side1 ?side2 A10.out).mono ?_); (case side1 => exact ca_ (Kd.C_below HR0_1.out HB.out)); (case side2 => exact HC0_1.out); rintro e w14 ⟨v295, v298, rfl, ho0, ho1, hb⟩; refine ⟨_, rfl, ?_⟩; have n0_ := Aside0.mk (Kd.R_mono (Kd.R_told (Kd.R_told (Kd.R_old (ra_ HO_3.out) hb) (Kd.R_base ho0)) (Kd.R_base ho1)) (fun _ h_ => h_.1)); have n1_ := Aside0.mk (Kd.S_mono (Kd.S_told (Kd.S_told (Kd.S_old (by (with_reducible repeat (first | apply Kd.S_alloc | apply Kd.S_drewN | apply Kd.S_drew)); exact HO_4.out) hb) (Kd.R_base ho0)) (Kd.R_base ho1)) (fun _ h_ => h_.1)); have n2_ := Aside0.mk (Kd.R_mono (Kd.R_told (Kd.R_told (Kd.R_old (ra_ HO_11.out) hb) (Kd.R_base ho0)) (Kd.R_base ho1)) (fun _ h_ => h_.1)); have n3_ := Aside0.mk (Kd.R_lower (Kd.R_new' (Kd.R_new' ho0 (Kd.R_lt (ra_ HO_3.out))) (Kd.R_lt (ra_ HO_11.out))) (below_size (bl1_ HB.out GE289.out))); have n4_ := Aside0.mk (Kd.R_lower (Kd.R_new' (Kd.R_new' ho1 (Kd.R_lt (ra_ HO_3.out))) (Kd.R_lt (ra_ HO_11.out))) (below_size (bl1_ HB.out GE289.out))); have n5_ := Aside0.mk (blk_below (g := gb289) (o := .cells #[.int .i64 a0_0, .slice A0_1 l0_1.length c0_1] 29 (0, 0)) (bk_ BK289.out) hb); have n6_ := Aside0.mk (below_step (bl1_ HB.out GE289.out) hb); clear HO_3; clear HO_4; clear HO_11; clear BK289; clear HB; have HO_3 := n0_; have HO_4 := n1_; have HO_11 := n2_; have HO296 := n3_; have HO299 := n4_; have BK289 := n5_; have HB := n6_; clear n0_ n1_ n2_ n3_ n4_ n5_ n6_; (try clear hb); (try clear hb2); (try clear hk); (try clear hi); (try clear ho0); (try clear ho1); obtain ⟨Ao15, co15, eo15⟩ := Kd.R_slice HO296.out; subst eo15) | ((with_reducible refine gate_callee (f := 94) rfl ?_); refine goesL_ (some 26) rfl rfl Try.func94 (by kernel_rfl) rfl #[.slice Ao15 t294.length co15, .slice (some ad293) t290.length co6] rfl mp_ ?_; (with_reducible refine (impl_chosen.calls k1 _ _ t294 _ _ t290 t300 _ ?side1 ?side2 ?side3 ?side4 A11.out).mono ?_); (case side1 => exact ca_ (Kd.R_reads' HO296.out).2.2); (case side2 => exact (Kd.R_reads' HO296.out).2.1); (case side3 => exact ca_ (Kd.R_reads' HO_3.out).2.2); (case side4 => exact (Kd.R_reads' HO_3.out).2.1); rintro e w16 ⟨v301, rfl, ho0, hb⟩; refine ⟨_, rfl, ?_⟩; have n0_ := Aside0.mk (Kd.R_elder' (ra_ HO_3.out) (Kd.R_base ho0) hb); have n1_ := Aside0.mk (Kd.S_elder' (by (with_reducible repeat (first | apply Kd.S_alloc | apply Kd.S_drewN | apply Kd.S_drew)); exact HO_4.out) (Kd.R_base ho0) hb); have n2_ := Aside0.mk (Kd.R_elder' (ra_ HO_11.out) (Kd.R_base ho0) hb); have n3_ := Aside0.mk (Kd.R_elder' (ra_ HO296.out) (Kd.R_base ho0) hb); have n4_ := Aside0.mk (Kd.R_elder' (ra_ HO299.out) (Kd.R_base ho0) hb); have n5_ := Aside0.mk (Kd.R_lower (Kd.R_new' (Kd.R_new' (Kd.R_new' (Kd.R_new' ho0 (Kd.R_lt (ra_ HO_3.out))) (Kd.R_lt (ra_ HO_11.out))) (Kd.R_lt (ra_ HO296.out))) (Kd.R_lt (ra_ HO299.out))) (below_size (bl1_ HB.out GE289.out))); have n6_ := Aside0.mk (blk_below (g := gb289) (o := .cells #[.int .i64 a0_0, .slice A0_1 l0_1.length c0_1] 29 (0, 0)) (bk_ BK289.out) hb); have n7_ := Aside0.mk (below_step (bl1_ HB.out GE289.out) hb); clear HO_3; clear HO_4; clear HO_11; clear HO296; clear HO299; clear BK289; clear HB; have HO_3 := n0_; have HO_4 := n1_; have HO_11 := n2_; have HO296 := n3_; have HO299 := n4_; have HO302 := n5_; have BK289 := n6_; have HB := n7_; clear n0_ n1_ n2_ n3_ n4_ n5_ n6_ n7_; (try clear hb); (try clear hb2); (try clear hk); (try clear hi); (try clear ho0); obtain ⟨Ao18, co18, eo18⟩ := Kd.R_slice HO302.out; subst eo18) | ((with_reducible refine gate_builtin (b := .append) (xs := #[.tmp 23, .tmp 27]) rfl ?_); at_builtin; refine Kd.S_append (Kd.slice 2 (Kd.int .i64)) (w0 := w) w.heap.size rfl (.tmp 23) (.tmp 27) 42 36 (.slice none 0 0) 24 rfl Try.underlying42 info36 rfl (by decide) (by omega) u4 x4_1 t300 [.slice Ao18 t300.length co18] (fun k_ => some k_ ≠ (.slice (some ad293) t290.length co6 : Value).ownBlock ∧ some k_ ≠ (.slice (some ad293) t290.length co6 : Value).ownBlock ∧ some k_ ≠ (.slice Ao15 t294.length co15 : Value).ownBlock ∧ some k_ ≠ (v298 : Value).ownBlock) (fun k_ => some k_ = (.slice Ao18 t300.length co18 : Value).ownBlock) rfl rfl ?aP (fun k_ hk_ => ((Kd.R_mono (ok' := fun k_ => ((fun k_ => some k_ ≠ (.slice (some ad293) t290.length co6 : Value).ownBlock ∧ some k_ ≠ (.slice (some ad293) t290.length co6 : Value).ownBlock ∧ some k_ ≠ (.slice Ao15 t294.length co15 : Value).ownBlock ∧ some k_ ≠ (v298 : Value).ownBlock)) k_ ∧ some k_ ≠ (u4 : Value).ownBlock) (Kd.R_apart' (HO302.out) (Kd.S_typed HO_4.out) (by decide)) (fun k_ hk => ⟨⟨hk.1.1.1.1.2, ⟨hk.1.1.1.2, ⟨hk.1.1.2, hk.1.2⟩⟩⟩, hk.2⟩))).1 k_ hk_.symm) ?aF ?aO ?aB ?aS ?aL ?_; (case aP => exact Kd.M_row (Kd.R_mono (Kd.R_tight rfl (Kd.R_mono (ok' := fun k_ => ((fun k_ => some k_ ≠ (.slice (some ad293) t290.length co6 : Value).ownBlock ∧ some k_ ≠ (.slice (some ad293) t290.length co6 : Value).ownBlock ∧ some k_ ≠ (.slice Ao15 t294.length co15 : Value).ownBlock ∧ some k_ ≠ (v298 : Value).ownBlock)) k_ ∧ some k_ ≠ (u4 : Value).ownBlock) (Kd.R_apart' (HO302.out) (Kd.S_typed HO_4.out) (by decide)) (fun k_ hk => ⟨⟨hk.1.1.1.1.2, ⟨hk.1.1.1.2, ⟨hk.1.1.2, hk.1.2⟩⟩⟩, hk.2⟩))) (fun _ h_ => h_))); (case aB => exact (bl1_ HB.out GE289.out)); (case aF => exact (fun k_ hk => ⟨Kd.fresh' (Kd.R_lt (ra_ HO_3.out)) k_ hk, Kd.fresh' (Kd.R_lt (ra_ HO_11.out)) k_ hk, Kd.fresh' (Kd.R_lt (ra_ HO296.out)) k_ hk, Kd.fresh' (Kd.R_lt (ra_ HO299.out)) k_ hk⟩)); (case aO => exact (by (with_reducible repeat (first | apply Kd.S_alloc | apply Kd.S_drewN | apply Kd.S_drew)); exact Kd.S_mono HO_4.out (fun k_ hk => ⟨⟨hk.1.1.1.1, ⟨hk.1.1.1.2, ⟨hk.1.1.2, hk.1.2⟩⟩⟩, fun e_ => hk.2 e_⟩))); (case aS => exact (below_size (bl1_ HB.out GE289.out))); (case aL => have := LMc12.out; omega); intro v304 w17 ho hb hg hat; rw [← Ny303.out] at ho; have n0_ := Aside0.mk (Kd.R_over' (ra_ HO_3.out) (Kd.S_typed (by (with_reducible repeat (first | apply Kd.S_alloc | apply Kd.S_drewN | apply Kd.S_drew)); exact HO_4.out)) (by decide) hg); have n1_ := Aside0.mk (Kd.R_over' (ra_ HO_11.out) (Kd.S_typed (by (with_reducible repeat (first | apply Kd.S_alloc | apply Kd.S_drewN | apply Kd.S_drew)); exact HO_4.out)) (by decide) hg); have n2_ := Aside0.mk (blk_grown (g := gb289) (o := .cells #[.int .i64 a0_0, .slice A0_1 l0_1.length c0_1] 29 (0, 0)) (bk_ BK289.out) hg (Kd.S_ne HO_4.out BK289.out (by decide))); have n3_ := Aside0.mk (Kd.R_over' (ra_ HO296.out) (Kd.S_typed (by (with_reducible repeat (first | apply Kd.S_alloc | apply Kd.S_drewN | apply Kd.S_drew)); exact HO_4.out)) (by decide) hg); have n4_ := Aside0.mk (Kd.R_over' (ra_ HO299.out) (Kd.S_typed (by (with_reducible repeat (first | apply Kd.S_alloc | apply Kd.S_drewN | apply Kd.S_drew)); exact HO_4.out)) (by decide) hg); have n5_ := Aside0.mk (hb); have n6_ := Aside0.mk (ho); clear HO_3; clear HO_11; clear BK289; clear HO296; clear HO299; clear HB; clear HO_4; clear HO302; have HO_3 := n0_; have HO_11 := n1_; have BK289 := n2_; have HO296 := n3_; have HO299 := n4_; have HB := n5_; have HO305 := n6_; clear n0_ n1_ n2_ n3_ n4_ n5_ n6_; clear ho hb hg hat))
    go_roundg k1
    case measure => have := HK1.out; omega
    case rel => exact ⟨(y303), (wrap64 (x13_1 + 1)), rs_, H', ⟨by have := HK1.out; omega⟩, ⟨by (with_reducible repeat (first | apply Kd.R_alloc | apply Kd.R_drewN | apply Kd.R_drew)); exact Kd.R_mono HO_3.out (fun _ hk => trivial)⟩, ⟨by (with_reducible repeat (first | apply Kd.S_alloc | apply Kd.S_drewN | apply Kd.S_drew)); exact Kd.S_mono HO305.out (fun _ hk => ⟨hk.1, hk.2.1⟩)⟩, ⟨by (with_reducible repeat (first | apply Kd.R_alloc | apply Kd.R_drewN | apply Kd.R_drew)); exact Kd.R_mono HO_11.out (fun _ hk => trivial)⟩, ⟨bk_ BK289.out⟩, ⟨bl1_ HB.out GE289.out⟩⟩
   ·rw [if_neg c7] at H
    have c7b0 := decide_eq_false c7
    clear c7
    obtain rfl := Option.some.inj H
    go_wp2
    go_ret
    exact ⟨_, re_, by (with_reducible repeat (first | apply Kd.S_alloc | apply Kd.S_drewN | apply Kd.S_drew)); exact Kd.S_mono HO_4.out (fun _ hk => trivial), bl1_ HB.out GE289.out⟩

/-! ### impl_LeafDistances: function 32 -/
def impl_LeafDistances.f (k : Nat) (a0_0 : Int) (l0_1 : List (S71)) : Option ((List (List Int))) := (impl_ValidTree.f k a0_0 l0_1).bind fun t307 => (if t307 = true then ((impl_Tree_leafDistances.f k a0_0 l0_1).bind fun t308 => (some t308)) else (some ([] : List (List Int))))
theorem impl_LeafDistances.mono : ∀ a0 a1 k, LeO (impl_LeafDistances.f k a0 a1) (impl_LeafDistances.f (k + 1) a0 a1) := by
 intro a0 a1 k
 unfold impl_LeafDistances.f
 repeat' first
   | (with_reducible exact impl_Tree_leafDistances.mono _ _ _)
   | (with_reducible exact impl_ValidTree.mono _ _ _)
   | (with_reducible exact LeO.refl _)
   | (with_reducible exact LeO.none _)
   | (with_reducible refine LeO.ite ?_ ?_)
   | (with_reducible refine LeO.bind ?_ (fun _ => ?_))
   | exact impl_Tree_leafDistances.mono _ _ _
   | exact impl_ValidTree.mono _ _ _
   | exact LeO.none _
   | refine LeO.ite ?_ ?_
   | refine LeO.bind ?_ (fun _ => ?_)
set_option maxHeartbeats 8000000 in
set_option maxRecDepth 100000 in
theorem impl_LeafDistances.calls (k : Nat) (a0_0 : Int) (A0_1 : Option Addr) (c0_1 : Nat) (l0_1 : List (S71)) (r : List (List Int)) (w : World) (hr0_1 : Kd.C k71 w A0_1 l0_1.length l0_1) (hc0_1 : l0_1.length ≤ c0_1) (h : impl_LeafDistances.f k a0_0 l0_1 = some r) :
  Calls Try.prog 32 #[.agg #[.int .i64 a0_0, .slice A0_1 l0_1.length c0_1]] w fun e w' => ∃ v0_ : Value, e = .returned (v0_) ∧ Kd.S (Kd.slice 2 (Kd.int .i64)) 36 w' w.heap.size (fun _ => True) v0_ r ∧ Below w.heap.size w w' := by
 have hu29 := Try.underlying29
 have HR0_1 := Aside0.mk hr0_1
 have HC0_1 := Aside0.mk hc0_1
 clear hr0_1 hc0_1
 have HB := Aside0.mk (Below.refl w.heap.size w)
 have H : ((impl_ValidTree.f k a0_0 l0_1).bind fun t307 => (if t307 = true then ((impl_Tree_leafDistances.f k a0_0 l0_1).bind fun t308 => (some t308)) else (some ([] : List (List Int))))) = some r := h
 clear h
 replace H := Option.bind_eq_some_iff.mp H
 obtain ⟨t307, A20, H⟩ := H
 replace H : (if t307 = true then ((impl_Tree_leafDistances.f k a0_0 l0_1).bind fun t308 => (some t308)) else (some ([] : List (List Int)))) = some r := H
 have A2 := Aside0.mk A20
 clear A20
 by_cases c3 : t307 = true
 ·subst c3
  have H1 : ((impl_Tree_leafDistances.f k a0_0 l0_1).bind fun t308 => (some t308)) = some r := by rw [if_pos rfl] at H; exact H
  clear H
  have H := H1
  clear H1
  replace H := Option.bind_eq_some_iff.mp H
  obtain ⟨t308, A40, H⟩ := H
  replace H : (some t308) = some r := H
  have A4 := Aside0.mk A40
  clear A40
  obtain rfl := Option.some.inj H
  go_enter Try.func32, Try.ntmps32
  go_wp2_with (first | ((with_reducible refine gate_dst (N := 1) rfl ?_); refine box_event ?hg (N := 1) ?hd (cs := #[.int .i64 a0_0, .slice A0_1 l0_1.length c0_1]) (t := 29) ?hr ?_; (case hd => rfl); (case hg => rfl); (case hr => first | (go_simp; done) | (go_simp; rfl)); intro gb306 hg w5 hbox hb; have n0_ := Aside0.mk (below_step (bl0_ HB.out) hb); have n1_ := Aside0.mk (hbox); have n2_ := Aside0.mk ((by rw [hg]; exact (below_size (bl0_ HB.out)) : w.heap.size ≤ gb306)); have n3_ := Aside0.mk ((by rw [hg]; exact (below_size (bl0_ HB.out)) : w.heap.size ≤ gb306)); clear HB; have HB := n0_; have BK306 := n1_; have GW306 := n2_; have GE306 := n3_; clear n0_ n1_ n2_ n3_; clear hb hbox hg; have hcz6_0 : w5.cell? ⟨gb306, 0, none⟩ = some (.int .i64 a0_0) := (blk_cell BK306.out 0).trans rfl; have hcz6_1 : w5.cell? ⟨gb306, 1, none⟩ = some (.slice A0_1 l0_1.length c0_1) := (blk_cell BK306.out 1).trans rfl; have hfz6_0 := blk_frozen BK306.out 0; have hfz6_1 := blk_frozen BK306.out 1) | ((with_reducible refine gate_callee (f := 20) rfl ?_); refine goesL_ (some 4) rfl rfl Try.func20 (by kernel_rfl) rfl #[.agg #[.int .i64 a0_0, .slice A0_1 l0_1.length c0_1]] rfl mp_ ?_; (with_reducible refine (impl_ValidTree.calls k a0_0 _ _ l0_1 true _ ?side1 ?side2 A2.out).mono ?_); (case side1 => exact ca_ (Kd.C_below HR0_1.out HB.out)); (case side2 => exact HC0_1.out); rintro e w7 ⟨rfl, hb⟩; refine ⟨_, rfl, ?_⟩; have n0_ := Aside0.mk (blk_below (g := gb306) (o := .cells #[.int .i64 a0_0, .slice A0_1 l0_1.length c0_1] 29 (0, 0)) (bk_ BK306.out) hb); have n1_ := Aside0.mk (below_step (bl1_ HB.out GE306.out) hb); clear BK306; clear HB; have BK306 := n0_; have HB := n1_; clear n0_ n1_; (try clear hb); (try clear hb2); (try clear hk); (try clear hi); have hcz8_0 : w7.cell? ⟨gb306, 0, none⟩ = some (.int .i64 a0_0) := (blk_cell BK306.out 0).trans rfl; have hcz8_1 : w7.cell? ⟨gb306, 1, none⟩ = some (.slice A0_1 l0_1.length c0_1) := (blk_cell BK306.out 1).trans rfl; have hfz8_0 := blk_frozen BK306.out 0; have hfz8_1 := blk_frozen BK306.out 1) | ((with_reducible refine gate_callee (f := 71) rfl ?_); refine goesL_ (some 7) rfl rfl Try.func71 (by kernel_rfl) rfl #[.agg #[.int .i64 a0_0, .slice A0_1 l0_1.length c0_1]] rfl mp_ ?_; (with_reducible refine (impl_Tree_leafDistances.calls k a0_0 _ _ l0_1 t308 _ ?side1 ?side2 A4.out).mono ?_); (case side1 => exact ca_ (Kd.C_below HR0_1.out HB.out)); (case side2 => exact HC0_1.out); rintro e w9 ⟨v309, rfl, ho0, hb⟩; refine ⟨_, rfl, ?_⟩; have n0_ := Aside0.mk (Kd.S_lower ho0 (below_size (bl1_ HB.out GE306.out))); have n1_ := Aside0.mk (blk_below (g := gb306) (o := .cells #[.int .i64 a0_0, .slice A0_1 l0_1.length c0_1] 29 (0, 0)) (bk_ BK306.out) hb); have n2_ := Aside0.mk (below_step (bl1_ HB.out GE306.out) hb); clear BK306; clear HB; have HO310 := n0_; have BK306 := n1_; have HB := n2_; clear n0_ n1_ n2_; (try clear hb); (try clear hb2); (try clear hk); (try clear hi); (try clear ho0)))
  go_ret
  exact ⟨_, re_, by (with_reducible repeat (first | apply Kd.S_alloc | apply Kd.S_drewN | apply Kd.S_drew)); exact HO310.out, bl1_ HB.out GE306.out⟩
 ·replace c3 := Bool.eq_false_iff.mpr c3
  subst c3
  have H1 : (some ([] : List (List Int))) = some r := by rw [if_neg (show ¬ (false = true) by decide)] at H; exact H
  clear H
  have H := H1
  clear H1
  obtain rfl := Option.some.inj H
  go_enter Try.func32, Try.ntmps32
  go_wp2_with (first | ((with_reducible refine gate_dst (N := 1) rfl ?_); refine box_event ?hg (N := 1) ?hd (cs := #[.int .i64 a0_0, .slice A0_1 l0_1.length c0_1]) (t := 29) ?hr ?_; (case hd => rfl); (case hg => rfl); (case hr => first | (go_simp; done) | (go_simp; rfl)); intro gb306 hg w10 hbox hb; have n0_ := Aside0.mk (below_step (bl0_ HB.out) hb); have n1_ := Aside0.mk (hbox); have n2_ := Aside0.mk ((by rw [hg]; exact (below_size (bl0_ HB.out)) : w.heap.size ≤ gb306)); have n3_ := Aside0.mk ((by rw [hg]; exact (below_size (bl0_ HB.out)) : w.heap.size ≤ gb306)); clear HB; have HB := n0_; have BK306 := n1_; have GW306 := n2_; have GE306 := n3_; clear n0_ n1_ n2_ n3_; clear hb hbox hg; have hcz11_0 : w10.cell? ⟨gb306, 0, none⟩ = some (.int .i64 a0_0) := (blk_cell BK306.out 0).trans rfl; have hcz11_1 : w10.cell? ⟨gb306, 1, none⟩ = some (.slice A0_1 l0_1.length c0_1) := (blk_cell BK306.out 1).trans rfl; have hfz11_0 := blk_frozen BK306.out 0; have hfz11_1 := blk_frozen BK306.out 1) | ((with_reducible refine gate_callee (f := 20) rfl ?_); refine goesL_ (some 4) rfl rfl Try.func20 (by kernel_rfl) rfl #[.agg #[.int .i64 a0_0, .slice A0_1 l0_1.length c0_1]] rfl mp_ ?_; (with_reducible refine (impl_ValidTree.calls k a0_0 _ _ l0_1 false _ ?side1 ?side2 A2.out).mono ?_); (case side1 => exact ca_ (Kd.C_below HR0_1.out HB.out)); (case side2 => exact HC0_1.out); rintro e w12 ⟨rfl, hb⟩; refine ⟨_, rfl, ?_⟩; have n0_ := Aside0.mk (blk_below (g := gb306) (o := .cells #[.int .i64 a0_0, .slice A0_1 l0_1.length c0_1] 29 (0, 0)) (bk_ BK306.out) hb); have n1_ := Aside0.mk (below_step (bl1_ HB.out GE306.out) hb); clear BK306; clear HB; have BK306 := n0_; have HB := n1_; clear n0_ n1_; (try clear hb); (try clear hb2); (try clear hk); (try clear hi)))
  go_ret
  exact ⟨_, re_, by first | exact Kd.S_nil _ _ _ _ _ | exact Kd.N_nil _ _ _ _ _ | exact Kd.V_nil _ _ _ _ _ | exact Kd.Q_nil _ _ _ _ _ | exact Kd.R_nil _ _ _ _ _, bl1_ HB.out GE306.out⟩

/-! ### laws_eqInt64S: function 25 -/
def laws_eqInt64S.l0 : Nat → List Int → List Int → Int → Option (Bool)
 | 0, _, _, _ => none
 | k + 1, x0, x1, x5 => if x5 < (x0.length : Int) then (if 0 ≤ x5 then (if x5 < (x1.length : Int) then (if (rd x0 x5) = (rd x1 x5) then (laws_eqInt64S.l0 k x0 x1 (wrap64 (x5 + 1))) else (some false)) else (none)) else (none)) else (some true)
def laws_eqInt64S.f (k : Nat) (l0 : List Int) (l1 : List Int) : Option (Bool) := if (l0.length : Int) = (l1.length : Int) then (laws_eqInt64S.l0 k l0 l1 0) else (some false)
theorem laws_eqInt64S.mono_l : ∀ k, (∀ y0 y1 y2, LeO (laws_eqInt64S.l0 k y0 y1 y2) (laws_eqInt64S.l0 (k + 1) y0 y1 y2))
 | 0 => fun _ _ _ r h => by simp [laws_eqInt64S.l0] at h
 | k + 1 => by
  have ih0 := laws_eqInt64S.mono_l k
  ·intro y0 y1 y2
   unfold laws_eqInt64S.l0
   repeat' first
   | (with_reducible exact ih0 _ _ _)
   | (with_reducible exact LeO.refl _)
   | (with_reducible exact LeO.none _)
   | (with_reducible refine LeO.ite ?_ ?_)
   | (with_reducible refine LeO.bind ?_ (fun _ => ?_))
theorem laws_eqInt64S.mono : ∀ a0 a1 k, LeO (laws_eqInt64S.f k a0 a1) (laws_eqInt64S.f (k + 1) a0 a1) := by
 intro a0 a1 k
 have ih0 := laws_eqInt64S.mono_l k
 unfold laws_eqInt64S.f
 repeat' first
   | (with_reducible exact ih0 _ _ _)
   | (with_reducible exact LeO.refl _)
   | (with_reducible exact LeO.none _)
   | (with_reducible refine LeO.ite ?_ ?_)
   | (with_reducible refine LeO.bind ?_ (fun _ => ?_))
set_option maxHeartbeats 8000000 in
set_option maxRecDepth 100000 in
theorem laws_eqInt64S.calls (k : Nat) (A0 : Option Addr) (c0 : Nat) (l0 : List Int) (A1 : Option Addr) (c1 : Nat) (l1 : List Int) (r : Bool) (w : World) (hr0 : Kd.C (Kd.int .i64) w A0 l0.length l0) (hc0 : l0.length ≤ c0) (hr1 : Kd.C (Kd.int .i64) w A1 l1.length l1) (hc1 : l1.length ≤ c1) (h : laws_eqInt64S.f k l0 l1 = some r) :
  Calls Try.prog 25 #[.slice A0 l0.length c0, .slice A1 l1.length c1] w fun e w' => e = .returned (.bool r) ∧ Drawn0 w w' := by
 have HR0 := Aside0.mk hr0
 have HC0 := Aside0.mk hc0
 clear hr0 hc0
 have HR1 := Aside0.mk hr1
 have HC1 := Aside0.mk hc1
 clear hr1 hc1
 have H : (if (l0.length : Int) = (l1.length : Int) then (laws_eqInt64S.l0 k l0 l1 0) else (some false)) = some r := h
 clear h
 by_cases c3 : (l0.length : Int) = (l1.length : Int)
 ·rw [if_pos c3] at H
  have c3b0 : ((l0.length : Int) == (l1.length : Int)) = true := beq_iff_eq.mpr c3
  have c3b1 : ((l0.length : Int) != (l1.length : Int)) = false := bne_eq_false_iff_eq.mpr c3
  have c3b2 : (l0.length == l1.length) = true := by first | simpa using c3 | (simp at c3 ⊢; omega)
  clear c3
  have H' := Aside0.mk H
  clear H
  go_enter Try.func25, Try.ntmps25
  go_wp2
  repeat (go_quiet (fail); try go_wp2)
  go_loopg [5] k (fun kq v5 w' => ∃ (x5_1 : Int), v5 = .int .i64 x5_1 ∧ Aside0 (laws_eqInt64S.l0 kq l0 l1 x5_1 = some r) ∧ Aside0 (kq ≤ k) ∧ Drawn0 w w')
  case atStart => exact ⟨(0), rs_, H', ⟨Nat.le_refl _⟩, by repeat (first | exact Drawn0.refl _ | apply Drawn0.step)⟩
  case round =>
   clear H'
   try clear c1
   try clear c2
   try clear p2
   try clear c3
   try clear c3b0
   try clear c3b1
   try clear c3b2
   obtain ⟨x5_1, rfl, HA, HK1, ⟨m1, rfl⟩⟩ := hrel
   cases gk with
   | zero => exact absurd HA.out (by simp [laws_eqInt64S.l0])
   | succ k1 =>
    have H := HA.out
    clear HA
    simp only [laws_eqInt64S.l0] at H
    by_cases c4 : x5_1 < (l0.length : Int)
    ·rw [if_pos c4] at H
     have c4b0 := decide_eq_true c4
     clear c4
     by_cases c5 : 0 ≤ x5_1
     rotate_left
     ·exact nope_ c5 H
     rw [if_pos c5] at H
     have c5b0 := decide_eq_true c5
     clear c5
     by_cases c6 : x5_1 < (l1.length : Int)
     rotate_left
     ·exact nope_ c6 H
     rw [if_pos c6] at H
     have c6b0 := decide_eq_true c6
     clear c6
     by_cases c7 : (rd l0 x5_1) = (rd l1 x5_1)
     ·rw [if_pos c7] at H
      have c7b0 : ((rd l0 x5_1) == (rd l1 x5_1)) = true := beq_iff_eq.mpr c7
      have c7b1 : ((rd l0 x5_1) != (rd l1 x5_1)) = false := bne_eq_false_iff_eq.mpr c7
      clear c7
      have H' := Aside0.mk H
      clear H
      have p311 : 0 ≤ (x5_1 : Int) := od_
      have q311 : x5_1 < (l0.length : Int) := od_
      obtain ⟨ad311, e311, hx311_0⟩ := Kd.at_int HR0.out x5_1 p311 q311
      cases e311
      replace p311 := eq_true p311
      replace q311 := eq_true q311
      have p312 : 0 ≤ (x5_1 : Int) := od_
      have q312 : x5_1 < (l1.length : Int) := od_
      obtain ⟨ad312, e312, hx312_0⟩ := Kd.at_int HR1.out x5_1 p312 q312
      cases e312
      replace p312 := eq_true p312
      replace q312 := eq_true q312
      go_wp2
      repeat (go_quiet (fail); try go_wp2)
      go_roundg k1
      case measure => have := HK1.out; omega
      case rel => exact ⟨(wrap64 (x5_1 + 1)), rs_, H', ⟨by have := HK1.out; omega⟩, by repeat (first | exact Drawn0.refl _ | apply Drawn0.step)⟩
     ·rw [if_neg c7] at H
      have c7b0 : ((rd l0 x5_1) == (rd l1 x5_1)) = false := beq_eq_false_iff_ne.mpr c7
      have c7b1 : ((rd l0 x5_1) != (rd l1 x5_1)) = true := bne_iff_ne.mpr c7
      obtain rfl := Option.some.inj H
      have p311 : 0 ≤ (x5_1 : Int) := od_
      have q311 : x5_1 < (l0.length : Int) := od_
      obtain ⟨ad311, e311, hx311_0⟩ := Kd.at_int HR0.out x5_1 p311 q311
      cases e311
      replace p311 := eq_true p311
      replace q311 := eq_true q311
      have p312 : 0 ≤ (x5_1 : Int) := od_
      have q312 : x5_1 < (l1.length : Int) := od_
      obtain ⟨ad312, e312, hx312_0⟩ := Kd.at_int HR1.out x5_1 p312 q312
      cases e312
      replace p312 := eq_true p312
      replace q312 := eq_true q312
      go_wp2
      repeat (go_quiet (fail); try go_wp2)
      go_ret
      exact ⟨by first | rfl | (simp; done) | (simp [*]; done), by repeat (first | exact Drawn0.refl _ | apply Drawn0.step)⟩
    ·rw [if_neg c4] at H
     have c4b0 := decide_eq_false c4
     clear c4
     obtain rfl := Option.some.inj H
     go_wp2
     repeat (go_quiet (fail); try go_wp2)
     go_ret
     exact ⟨by first | rfl | (simp; done) | (simp [*]; done), by repeat (first | exact Drawn0.refl _ | apply Drawn0.step)⟩
 ·rw [if_neg c3] at H
  have c3b0 : ((l0.length : Int) == (l1.length : Int)) = false := beq_eq_false_iff_ne.mpr c3
  have c3b1 : ((l0.length : Int) != (l1.length : Int)) = true := bne_iff_ne.mpr c3
  have c3b2 : (l0.length == l1.length) = false := by first | simpa using c3 | (simp at c3 ⊢; omega)
  obtain rfl := Option.some.inj H
  go_enter Try.func25, Try.ntmps25
  go_wp2
  repeat (go_quiet (fail); try go_wp2)
  go_ret
  exact ⟨by first | rfl | (simp; done) | (simp [*]; done), by repeat (first | exact Drawn0.refl _ | apply Drawn0.step)⟩

/-! ### laws_eqInt64SS: function 33 -/
def laws_eqInt64SS.l0 : Nat → List (List Int) → List (List Int) → Int → Option (Bool)
 | 0, _, _, _ => none
 | k + 1, x0, x1, x5 => if x5 < (x0.length : Int) then (if 0 ≤ x5 then (if x5 < (x1.length : Int) then ((laws_eqInt64S.f k (rd_L3 x0 x5) (rd_L3 x1 x5)).bind fun t315 => (if t315 = true then (laws_eqInt64SS.l0 k x0 x1 (wrap64 (x5 + 1))) else (some false))) else (none)) else (none)) else (some true)
def laws_eqInt64SS.f (k : Nat) (l0 : List (List Int)) (l1 : List (List Int)) : Option (Bool) := if (l0.length : Int) = (l1.length : Int) then (laws_eqInt64SS.l0 k l0 l1 0) else (some false)
theorem laws_eqInt64SS.mono_l : ∀ k, (∀ y0 y1 y2, LeO (laws_eqInt64SS.l0 k y0 y1 y2) (laws_eqInt64SS.l0 (k + 1) y0 y1 y2))
 | 0 => fun _ _ _ r h => by simp [laws_eqInt64SS.l0] at h
 | k + 1 => by
  have ih0 := laws_eqInt64SS.mono_l k
  ·intro y0 y1 y2
   unfold laws_eqInt64SS.l0
   repeat' first
   | (with_reducible exact ih0 _ _ _)
   | (with_reducible exact laws_eqInt64S.mono _ _ _)
   | (with_reducible exact LeO.refl _)
   | (with_reducible exact LeO.none _)
   | (with_reducible refine LeO.ite ?_ ?_)
   | (with_reducible refine LeO.bind ?_ (fun _ => ?_))
   | exact laws_eqInt64S.mono _ _ _
   | exact LeO.none _
   | refine LeO.ite ?_ ?_
   | refine LeO.bind ?_ (fun _ => ?_)
theorem laws_eqInt64SS.mono : ∀ a0 a1 k, LeO (laws_eqInt64SS.f k a0 a1) (laws_eqInt64SS.f (k + 1) a0 a1) := by
 intro a0 a1 k
 have ih0 := laws_eqInt64SS.mono_l k
 unfold laws_eqInt64SS.f
 repeat' first
   | (with_reducible exact ih0 _ _ _)
   | (with_reducible exact laws_eqInt64S.mono _ _ _)
   | (with_reducible exact LeO.refl _)
   | (with_reducible exact LeO.none _)
   | (with_reducible refine LeO.ite ?_ ?_)
   | (with_reducible refine LeO.bind ?_ (fun _ => ?_))
   | exact laws_eqInt64S.mono _ _ _
   | exact LeO.none _
   | refine LeO.ite ?_ ?_
   | refine LeO.bind ?_ (fun _ => ?_)
set_option maxHeartbeats 8000000 in
set_option maxRecDepth 100000 in
theorem laws_eqInt64SS.calls (k : Nat) (A0 : Option Addr) (c0 : Nat) (l0 : List (List Int)) (A1 : Option Addr) (c1 : Nat) (l1 : List (List Int)) (r : Bool) (w : World) (hr0 : Kd.C (Kd.slice 2 (Kd.int .i64)) w A0 l0.length l0) (hc0 : l0.length ≤ c0) (hr1 : Kd.C (Kd.slice 2 (Kd.int .i64)) w A1 l1.length l1) (hc1 : l1.length ≤ c1) (h : laws_eqInt64SS.f k l0 l1 = some r) :
  Calls Try.prog 33 #[.slice A0 l0.length c0, .slice A1 l1.length c1] w fun e w' => e = .returned (.bool r) ∧ Drawn0 w w' := by
 have HR0 := Aside0.mk hr0
 have HC0 := Aside0.mk hc0
 clear hr0 hc0
 have HR1 := Aside0.mk hr1
 have HC1 := Aside0.mk hc1
 clear hr1 hc1
 have H : (if (l0.length : Int) = (l1.length : Int) then (laws_eqInt64SS.l0 k l0 l1 0) else (some false)) = some r := h
 clear h
 by_cases c3 : (l0.length : Int) = (l1.length : Int)
 ·rw [if_pos c3] at H
  have c3b0 : ((l0.length : Int) == (l1.length : Int)) = true := beq_iff_eq.mpr c3
  have c3b1 : ((l0.length : Int) != (l1.length : Int)) = false := bne_eq_false_iff_eq.mpr c3
  have c3b2 : (l0.length == l1.length) = true := by first | simpa using c3 | (simp at c3 ⊢; omega)
  clear c3
  have H' := Aside0.mk H
  clear H
  go_enter Try.func33, Try.ntmps33
  go_wp2
  repeat (go_quiet (fail); try go_wp2)
  go_loopg [5] k (fun kq v5 w' => ∃ (x5_1 : Int), v5 = .int .i64 x5_1 ∧ Aside0 (laws_eqInt64SS.l0 kq l0 l1 x5_1 = some r) ∧ Aside0 (kq ≤ k) ∧ Drawn0 w w')
  case atStart => exact ⟨(0), rs_, H', ⟨Nat.le_refl _⟩, by repeat (first | exact Drawn0.refl _ | apply Drawn0.step)⟩
  case round =>
   clear H'
   try clear c1
   try clear p2
   try clear c3
   try clear c3b0
   try clear c3b1
   try clear c3b2
   obtain ⟨x5_1, rfl, HA, HK1, ⟨m1, rfl⟩⟩ := hrel
   cases gk with
   | zero => exact absurd HA.out (by simp [laws_eqInt64SS.l0])
   | succ k1 =>
    have H := HA.out
    clear HA
    simp only [laws_eqInt64SS.l0] at H
    by_cases c4 : x5_1 < (l0.length : Int)
    ·rw [if_pos c4] at H
     have c4b0 := decide_eq_true c4
     clear c4
     by_cases c5 : 0 ≤ x5_1
     rotate_left
     ·exact nope_ c5 H
     rw [if_pos c5] at H
     have c5b0 := decide_eq_true c5
     clear c5
     by_cases c6 : x5_1 < (l1.length : Int)
     rotate_left
     ·exact nope_ c6 H
     rw [if_pos c6] at H
     have c6b0 := decide_eq_true c6
     clear c6
     replace H := Option.bind_eq_some_iff.mp H
     obtain ⟨t315, A70, H⟩ := H
     replace H : (if t315 = true then (laws_eqInt64SS.l0 k1 l0 l1 (wrap64 (x5_1 + 1))) else (some false)) = some r := H
     have A7 := Aside0.mk A70
     clear A70
     by_cases c8 : t315 = true
     ·subst c8
      have H1 : (laws_eqInt64SS.l0 k1 l0 l1 (wrap64 (x5_1 + 1))) = some r := by rw [if_pos rfl] at H; exact H
      clear H
      have H := H1
      clear H1
      have H' := Aside0.mk H
      clear H
      have p313 : 0 ≤ (x5_1 : Int) := od_
      have q313 : x5_1 < (l0.length : Int) := od_
      obtain ⟨ad313, A313_0, c313_0, e313, hx313_0, hl313_0, hi313_0⟩ := at_L3 HR0.out x5_1 p313 q313
      cases e313
      have HR313_0 := Aside0.mk hi313_0
      have HC313_0 := Aside0.mk hl313_0
      clear hi313_0 hl313_0
      replace p313 := eq_true p313
      replace q313 := eq_true q313
      have p314 : 0 ≤ (x5_1 : Int) := od_
      have q314 : x5_1 < (l1.length : Int) := od_
      obtain ⟨ad314, A314_0, c314_0, e314, hx314_0, hl314_0, hi314_0⟩ := at_L3 HR1.out x5_1 p314 q314
      cases e314
      have HR314_0 := Aside0.mk hi314_0
      have HC314_0 := Aside0.mk hl314_0
      clear hi314_0 hl314_0
      replace p314 := eq_true p314
      replace q314 := eq_true q314
      go_wp2_with (first | (go_at_call 25; (with_reducible refine (laws_eqInt64S.calls k1 _ _ (rd_L3 l0 x5_1) _ _ (rd_L3 l1 x5_1) true _ ?side1 ?side2 ?side3 ?side4 A7.out).mono ?_); (case side1 => repeat (first | exact HR313_0.out | (with_reducible refine Kd.C_alloc ?_ _) | (with_reducible refine Kd.C_drewN ?_ _) | (with_reducible refine Kd.C_drew ?_))); (case side2 => exact HC313_0.out); (case side3 => repeat (first | exact HR314_0.out | (with_reducible refine Kd.C_alloc ?_ _) | (with_reducible refine Kd.C_drewN ?_ _) | (with_reducible refine Kd.C_drew ?_))); (case side4 => exact HC314_0.out); rintro e w' ⟨rfl, ⟨nd, rfl⟩⟩; (try first | exact ⟨rfl, _, World.drewN_drewN _ _ _⟩ | exact ⟨rfl, _, Eq.trans (World.drewN_drewN _ _ _) (congrArg (World.drewN _) (Nat.add_assoc _ _ _))⟩)))
      repeat (go_quiet (first | (go_at_call 25; (with_reducible refine (laws_eqInt64S.calls k1 _ _ (rd_L3 l0 x5_1) _ _ (rd_L3 l1 x5_1) true _ ?side1 ?side2 ?side3 ?side4 A7.out).mono ?_); (case side1 => repeat (first | exact HR313_0.out | (with_reducible refine Kd.C_alloc ?_ _) | (with_reducible refine Kd.C_drewN ?_ _) | (with_reducible refine Kd.C_drew ?_))); (case side2 => exact HC313_0.out); (case side3 => repeat (first | exact HR314_0.out | (with_reducible refine Kd.C_alloc ?_ _) | (with_reducible refine Kd.C_drewN ?_ _) | (with_reducible refine Kd.C_drew ?_))); (case side4 => exact HC314_0.out); rintro e w' ⟨rfl, ⟨nd, rfl⟩⟩; (try first | exact ⟨rfl, _, World.drewN_drewN _ _ _⟩ | exact ⟨rfl, _, Eq.trans (World.drewN_drewN _ _ _) (congrArg (World.drewN _) (Nat.add_assoc _ _ _))⟩))); try go_wp2_with (first | (go_at_call 25; (with_reducible refine (laws_eqInt64S.calls k1 _ _ (rd_L3 l0 x5_1) _ _ (rd_L3 l1 x5_1) true _ ?side1 ?side2 ?side3 ?side4 A7.out).mono ?_); (case side1 => repeat (first | exact HR313_0.out | (with_reducible refine Kd.C_alloc ?_ _) | (with_reducible refine Kd.C_drewN ?_ _) | (with_reducible refine Kd.C_drew ?_))); (case side2 => exact HC313_0.out); (case side3 => repeat (first | exact HR314_0.out | (with_reducible refine Kd.C_alloc ?_ _) | (with_reducible refine Kd.C_drewN ?_ _) | (with_reducible refine Kd.C_drew ?_))); (case side4 => exact HC314_0.out); rintro e w' ⟨rfl, ⟨nd, rfl⟩⟩; (try first | exact ⟨rfl, _, World.drewN_drewN _ _ _⟩ | exact ⟨rfl, _, Eq.trans (World.drewN_drewN _ _ _) (congrArg (World.drewN _) (Nat.add_assoc _ _ _))⟩))))
      go_roundg k1
      case measure => have := HK1.out; omega
      case rel => exact ⟨(wrap64 (x5_1 + 1)), rs_, H', ⟨by have := HK1.out; omega⟩, by repeat (first | exact Drawn0.refl _ | apply Drawn0.step)⟩
     ·replace c8 := Bool.eq_false_iff.mpr c8
      subst c8
      have H1 : (some false) = some r := by rw [if_neg (show ¬ (false = true) by decide)] at H; exact H
      clear H
      have H := H1
      clear H1
      obtain rfl := Option.some.inj H
      have p313 : 0 ≤ (x5_1 : Int) := od_
      have q313 : x5_1 < (l0.length : Int) := od_
      obtain ⟨ad313, A313_0, c313_0, e313, hx313_0, hl313_0, hi313_0⟩ := at_L3 HR0.out x5_1 p313 q313
      cases e313
      have HR313_0 := Aside0.mk hi313_0
      have HC313_0 := Aside0.mk hl313_0
      clear hi313_0 hl313_0
      replace p313 := eq_true p313
      replace q313 := eq_true q313
      have p314 : 0 ≤ (x5_1 : Int) := od_
      have q314 : x5_1 < (l1.length : Int) := od_
      obtain ⟨ad314, A314_0, c314_0, e314, hx314_0, hl314_0, hi314_0⟩ := at_L3 HR1.out x5_1 p314 q314
      cases e314
      have HR314_0 := Aside0.mk hi314_0
      have HC314_0 := Aside0.mk hl314_0
      clear hi314_0 hl314_0
      replace p314 := eq_true p314
      replace q314 := eq_true q314
      go_wp2_with (first | (go_at_call 25; (with_reducible refine (laws_eqInt64S.calls k1 _ _ (rd_L3 l0 x5_1) _ _ (rd_L3 l1 x5_1) false _ ?side1 ?side2 ?side3 ?side4 A7.out).mono ?_); (case side1 => repeat (first | exact HR313_0.out | (with_reducible refine Kd.C_alloc ?_ _) | (with_reducible refine Kd.C_drewN ?_ _) | (with_reducible refine Kd.C_drew ?_))); (case side2 => exact HC313_0.out); (case side3 => repeat (first | exact HR314_0.out | (with_reducible refine Kd.C_alloc ?_ _) | (with_reducible refine Kd.C_drewN ?_ _) | (with_reducible refine Kd.C_drew ?_))); (case side4 => exact HC314_0.out); rintro e w' ⟨rfl, ⟨nd, rfl⟩⟩; (try first | exact ⟨rfl, _, World.drewN_drewN _ _ _⟩ | exact ⟨rfl, _, Eq.trans (World.drewN_drewN _ _ _) (congrArg (World.drewN _) (Nat.add_assoc _ _ _))⟩)))
      repeat (go_quiet (first | (go_at_call 25; (with_reducible refine (laws_eqInt64S.calls k1 _ _ (rd_L3 l0 x5_1) _ _ (rd_L3 l1 x5_1) false _ ?side1 ?side2 ?side3 ?side4 A7.out).mono ?_); (case side1 => repeat (first | exact HR313_0.out | (with_reducible refine Kd.C_alloc ?_ _) | (with_reducible refine Kd.C_drewN ?_ _) | (with_reducible refine Kd.C_drew ?_))); (case side2 => exact HC313_0.out); (case side3 => repeat (first | exact HR314_0.out | (with_reducible refine Kd.C_alloc ?_ _) | (with_reducible refine Kd.C_drewN ?_ _) | (with_reducible refine Kd.C_drew ?_))); (case side4 => exact HC314_0.out); rintro e w' ⟨rfl, ⟨nd, rfl⟩⟩; (try first | exact ⟨rfl, _, World.drewN_drewN _ _ _⟩ | exact ⟨rfl, _, Eq.trans (World.drewN_drewN _ _ _) (congrArg (World.drewN _) (Nat.add_assoc _ _ _))⟩))); try go_wp2_with (first | (go_at_call 25; (with_reducible refine (laws_eqInt64S.calls k1 _ _ (rd_L3 l0 x5_1) _ _ (rd_L3 l1 x5_1) false _ ?side1 ?side2 ?side3 ?side4 A7.out).mono ?_); (case side1 => repeat (first | exact HR313_0.out | (with_reducible refine Kd.C_alloc ?_ _) | (with_reducible refine Kd.C_drewN ?_ _) | (with_reducible refine Kd.C_drew ?_))); (case side2 => exact HC313_0.out); (case side3 => repeat (first | exact HR314_0.out | (with_reducible refine Kd.C_alloc ?_ _) | (with_reducible refine Kd.C_drewN ?_ _) | (with_reducible refine Kd.C_drew ?_))); (case side4 => exact HC314_0.out); rintro e w' ⟨rfl, ⟨nd, rfl⟩⟩; (try first | exact ⟨rfl, _, World.drewN_drewN _ _ _⟩ | exact ⟨rfl, _, Eq.trans (World.drewN_drewN _ _ _) (congrArg (World.drewN _) (Nat.add_assoc _ _ _))⟩))))
      go_ret
      exact ⟨by first | rfl | (simp; done) | (simp [*]; done), by repeat (first | exact Drawn0.refl _ | apply Drawn0.step)⟩
    ·rw [if_neg c4] at H
     have c4b0 := decide_eq_false c4
     clear c4
     obtain rfl := Option.some.inj H
     go_wp2
     repeat (go_quiet (fail); try go_wp2)
     go_ret
     exact ⟨by first | rfl | (simp; done) | (simp [*]; done), by repeat (first | exact Drawn0.refl _ | apply Drawn0.step)⟩
 ·rw [if_neg c3] at H
  have c3b0 : ((l0.length : Int) == (l1.length : Int)) = false := beq_eq_false_iff_ne.mpr c3
  have c3b1 : ((l0.length : Int) != (l1.length : Int)) = true := bne_iff_ne.mpr c3
  have c3b2 : (l0.length == l1.length) = false := by first | simpa using c3 | (simp at c3 ⊢; omega)
  obtain rfl := Option.some.inj H
  go_enter Try.func33, Try.ntmps33
  go_wp2
  repeat (go_quiet (fail); try go_wp2)
  go_ret
  exact ⟨by first | rfl | (simp; done) | (simp [*]; done), by repeat (first | exact Drawn0.refl _ | apply Drawn0.step)⟩

end Go.Proofs.Ytnbhnkpefhdgjaa.L
