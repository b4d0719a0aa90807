/- For functions of the translation: a Lean function each, and that the call of the Go function comes to its answer. Written by this session's own program (myprint.py, over the kit's printer). -/
import Derived.Test.YtmckbecegiegaaaAx0
import Derived.Test.YtmckbecegiegaaaAx1
import Derived.Test.YtmckbecegiegaaaAx4
import Derived.Test.YtmckbecegiegaaaAx5
--compacted
namespace Go.Proofs.Ytmckbecegiegaaa.A
open Go.RowKit Go.Proofs.YtmckbecegiegaaaW.PrintWords Go.Proofs.YtmckbecegiegaaaW.PrintLast Go.Proofs.YtmckbecegiegaaaW.PrintMore
attribute [local go_sem] max2_int min2_int max_two min_two max_three min_three max_four min_four   -- for this text's walks alone
set_option linter.unusedVariables false
set_option linter.unusedSimpArgs false

/-! ### impl_ValidPacking: function 10 -/
mutual
def impl_ValidPacking.j0 : Nat → Int → List (S37) → Bool → Int → List (S75) → Option (Bool)
 | 0, _, _, _, _, _ => none
 | k + 1, x1, x2, x17, x560000, x560001 => if x17 = true then (some false) else ((impl_Tree_leafDistances.f k x560000 x560001).bind fun t562 => (if (x2.length : Int) = (t562.length : Int) then (impl_ValidPacking.l0 k x1 x2 t562 x2 (x2.length : Int) 0) else (some false)))
def impl_ValidPacking.l0 : Nat → Int → List (S37) → List (List Int) → List (S37) → Int → Int → Option (Bool)
 | 0, _, _, _, _, _, _ => none
 | k + 1, x1, x2, x7, x25, x26, x27 => if x27 < x26 then (if 0 ≤ x27 then (if x27 < (x25.length : Int) then ((impl_within.f ((rd_T37 x25 x27).f0) 0 x1).bind fun t567 => (if t567 = true then ((impl_within.f ((rd_T37 x25 x27).f1) 0 x1).bind fun t568 => (if t568 = true then (if 0 ≤ (wrap64 (x27 + 1)) then (if (wrap64 (x27 + 1)) ≤ (x2.length : Int) then ((impl_isApart.f k x7 (x2.take ((wrap64 (x27 + 1)) : Int).toNat)).bind fun t573 => (if t573 = true then (impl_ValidPacking.l0 k x1 x2 x7 x25 x26 (wrap64 (x27 + 1))) else (some false))) else (none)) else (none)) else (some false))) else (some false))) else (none)) else (none)) else (some true)
end
def impl_ValidPacking.f (k : Nat) (a0_0 : Int) (l0_1 : List (S75)) (a1 : Int) (l2 : List (S37)) : Option (Bool) := (impl_ValidTree.f k a0_0 l0_1).bind fun t560 => (if t560 = true then ((impl_isGridSide.f a1).bind fun t561 => (impl_ValidPacking.j0 k a1 l2 (!t561) a0_0 l0_1)) else (impl_ValidPacking.j0 k a1 l2 true a0_0 l0_1))
theorem impl_ValidPacking.mono_l : ∀ k, (∀ y0 y1 y2 y3 y4, LeO (impl_ValidPacking.j0 k y0 y1 y2 y3 y4) (impl_ValidPacking.j0 (k + 1) y0 y1 y2 y3 y4)) ∧ (∀ y0 y1 y2 y3 y4 y5, LeO (impl_ValidPacking.l0 k y0 y1 y2 y3 y4 y5) (impl_ValidPacking.l0 (k + 1) y0 y1 y2 y3 y4 y5))
 | 0 => ⟨fun _ _ _ _ _ r h => by simp [impl_ValidPacking.j0] at h, fun _ _ _ _ _ _ r h => by simp [impl_ValidPacking.l0] at h⟩
 | k + 1 => by
  obtain ⟨ih0, ih1⟩ := impl_ValidPacking.mono_l k
  refine ⟨?_, ?_⟩
  ·intro y0 y1 y2 y3 y4
   unfold impl_ValidPacking.j0
   repeat' first
   | (with_reducible exact ih0 _ _ _ _ _)
   | (with_reducible exact ih1 _ _ _ _ _ _)
   | (with_reducible exact impl_Tree_leafDistances.mono _ _ _)
   | (with_reducible exact impl_ValidTree.mono _ _ _)
   | (with_reducible exact impl_isApart.mono _ _ _)
   | (with_reducible exact LeO.refl _)
   | (with_reducible exact LeO.none _)
   | (with_reducible refine LeO.ite ?_ ?_)
   | (with_reducible refine LeO.bind ?_ (fun _ => ?_))
   | exact impl_Tree_leafDistances.mono _ _ _
   | exact impl_ValidTree.mono _ _ _
   | exact impl_isApart.mono _ _ _
   | exact LeO.none _
   | refine LeO.ite ?_ ?_
   | refine LeO.bind ?_ (fun _ => ?_)
  ·intro y0 y1 y2 y3 y4 y5
   unfold impl_ValidPacking.l0
   repeat' first
   | (with_reducible exact ih0 _ _ _ _ _)
   | (with_reducible exact ih1 _ _ _ _ _ _)
   | (with_reducible exact impl_Tree_leafDistances.mono _ _ _)
   | (with_reducible exact impl_ValidTree.mono _ _ _)
   | (with_reducible exact impl_isApart.mono _ _ _)
   | (with_reducible exact LeO.refl _)
   | (with_reducible exact LeO.none _)
   | (with_reducible refine LeO.ite ?_ ?_)
   | (with_reducible refine LeO.bind ?_ (fun _ => ?_))
   | exact impl_Tree_leafDistances.mono _ _ _
   | exact impl_ValidTree.mono _ _ _
   | exact impl_isApart.mono _ _ _
   | exact LeO.none _
   | refine LeO.ite ?_ ?_
   | refine LeO.bind ?_ (fun _ => ?_)
theorem impl_ValidPacking.mono : ∀ a0 a1 a2 a3 k, LeO (impl_ValidPacking.f k a0 a1 a2 a3) (impl_ValidPacking.f (k + 1) a0 a1 a2 a3) := by
 intro a0 a1 a2 a3 k
 obtain ⟨ih0, ih1⟩ := impl_ValidPacking.mono_l k
 unfold impl_ValidPacking.f
 repeat' first
   | (with_reducible exact ih0 _ _ _ _ _)
   | (with_reducible exact ih1 _ _ _ _ _ _)
   | (with_reducible exact impl_Tree_leafDistances.mono _ _ _)
   | (with_reducible exact impl_ValidTree.mono _ _ _)
   | (with_reducible exact impl_isApart.mono _ _ _)
   | (with_reducible exact LeO.refl _)
   | (with_reducible exact LeO.none _)
   | (with_reducible refine LeO.ite ?_ ?_)
   | (with_reducible refine LeO.bind ?_ (fun _ => ?_))
   | exact impl_Tree_leafDistances.mono _ _ _
   | exact impl_ValidTree.mono _ _ _
   | exact impl_isApart.mono _ _ _
   | exact LeO.none _
   | refine LeO.ite ?_ ?_
   | refine LeO.bind ?_ (fun _ => ?_)
set_option maxHeartbeats 8000000 in
set_option maxRecDepth 100000 in
theorem impl_ValidPacking.calls (k : Nat) (a0_0 : Int) (A0_1 : Option Addr) (c0_1 : Nat) (l0_1 : List (S75)) (a1 : Int) (A2 : Option Addr) (c2 : Nat) (l2 : List (S37)) (r : Bool) (w : World) (hr0_1 : Kd.C k75 w A0_1 l0_1.length l0_1) (hc0_1 : l0_1.length ≤ c0_1) (hr2 : Kd.C k37 w A2 l2.length l2) (hc2 : l2.length ≤ c2) (h : impl_ValidPacking.f k a0_0 l0_1 a1 l2 = some r) :
  Calls Try.prog 10 #[.agg #[.int .i64 a0_0, .slice A0_1 l0_1.length c0_1], .int .i64 a1, .slice A2 l2.length c2] w fun e w' => e = .returned (.bool r) ∧ Below w.heap.size w w' := by
 have hu26 := Try.underlying26
 have hu37 := Try.underlying37
 have HR0_1 := Aside0.mk hr0_1
 have HC0_1 := Aside0.mk hc0_1
 clear hr0_1 hc0_1
 have HR2 := Aside0.mk hr2
 have HC2 := Aside0.mk hc2
 clear hr2 hc2
 have HB := Aside0.mk (Below.refl w.heap.size w)
 have H : ((impl_ValidTree.f k a0_0 l0_1).bind fun t560 => (if t560 = true then ((impl_isGridSide.f a1).bind fun t561 => (impl_ValidPacking.j0 k a1 l2 (!t561) a0_0 l0_1)) else (impl_ValidPacking.j0 k a1 l2 true a0_0 l0_1))) = some r := h
 clear h
 have HC4 := Aside0.mk H
 clear H
 go_enter Try.func10, Try.ntmps10
 go_upto_region 1 with (first | ((with_reducible refine gate_dst (N := 3) rfl ?_); refine box_event ?hg (N := 3) ?hd (cs := #[.int .i64 a0_0, .slice A0_1 l0_1.length c0_1]) (t := 26) ?hr ?_; (case hd => rfl); (case hg => rfl); (case hr => first | (go_simp; done) | (go_simp; rfl)); intro gb559 hg w5 hbox hb; have n0_ := Aside0.mk (below_step (bl0_ HB.out) hb); have n1_ := Aside0.mk (hbox); have n2_ := Aside0.mk ((by rw [hg]; exact (below_size (bl0_ HB.out)) : w.heap.size ≤ gb559)); have n3_ := Aside0.mk ((by rw [hg]; exact (below_size (bl0_ HB.out)) : w.heap.size ≤ gb559)); clear HB; have HB := n0_; have BK559 := n1_; have GW559 := n2_; have GE559 := n3_; clear n0_ n1_ n2_ n3_; clear hb hbox hg))
 (try simp only [Act.put, List.setIfInBounds_toArray, List.set_cons_zero, List.set_cons_succ])
 go_cut [17] (fun v17 wc => ∃ (kq : Nat) (x17_3 : Bool), v17 = .bool x17_3 ∧ Aside0 (impl_ValidPacking.j0 kq a1 l2 x17_3 a0_0 l0_1 = some r) ∧ Aside0 (kq ≤ k) ∧ Aside0 (wc.heap[gb559]? = some (.cells #[.int .i64 a0_0, (.slice A0_1 l0_1.length c0_1)] 26 (0, 0))) ∧ Aside0 (Below w.heap.size w wc))
 case first =>
  have H := HC4.out
  clear HC4
  replace H := Option.bind_eq_some_iff.mp H
  obtain ⟨t560, A60, H⟩ := H
  replace H : (if t560 = true then ((impl_isGridSide.f a1).bind fun t561 => (impl_ValidPacking.j0 k a1 l2 (!t561) a0_0 l0_1)) else (impl_ValidPacking.j0 k a1 l2 true a0_0 l0_1)) = some r := H
  have A6 := Aside0.mk A60
  clear A60
  by_cases c7 : t560 = true
  ·subst c7
   have H1 : ((impl_isGridSide.f a1).bind fun t561 => (impl_ValidPacking.j0 k a1 l2 (!t561) a0_0 l0_1)) = some r := by rw [if_pos rfl] at H; exact H
   clear H
   have H := H1
   clear H1
   replace H := Option.bind_eq_some_iff.mp H
   obtain ⟨t561, A80, H⟩ := H
   replace H : (impl_ValidPacking.j0 k a1 l2 (!t561) a0_0 l0_1) = some r := H
   have A8 := Aside0.mk A80
   clear A80
   have H' := Aside0.mk H
   clear H
   obtain ⟨hcz9_0, hcz9_1, hfz9_0, hfz9_1⟩ := cz2_ BK559.out
   go_wp2_with (first | ((with_reducible refine gate_callee (f := 24) rfl ?_); refine goesL_ (some 11) rfl rfl Try.func24 (by kernel_rfl) rfl #[.agg #[.int .i64 a0_0, .slice A0_1 l0_1.length c0_1]] rfl mp_ ?_; (with_reducible refine (impl_ValidTree.calls k a0_0 _ _ l0_1 true _ ?side1 ?side2 A6.out).mono ?_); (case side1 => exact ca_ (Kd.C_below HR0_1.out HB.out)); (case side2 => exact HC0_1.out); rintro e w10 ⟨rfl, hb⟩; refine ⟨_, rfl, ?_⟩; have n0_ := Aside0.mk (blk_below (g := gb559) (o := .cells #[.int .i64 a0_0, .slice A0_1 l0_1.length c0_1] 26 (0, 0)) (bk_ BK559.out) hb); have n1_ := Aside0.mk (below_step (bl1_ HB.out GE559.out) hb); clear BK559; clear HB; have BK559 := n0_; have HB := n1_; clear n0_ n1_; (try clear hb); (try clear hb2); (try clear hk); (try clear hi)) | (go_at_call 25; (with_reducible refine (impl_isGridSide.calls a1 t561 _ A8.out).mono ?_); rintro e w' ⟨rfl, ⟨nd, rfl⟩⟩))
   go_meet
   case rel => exact ⟨_, (!t561), rs_, H', ⟨by first | omega | exact Nat.le_refl _⟩, ⟨bk_ BK559.out⟩, ⟨bl1_ HB.out GE559.out⟩⟩
  ·replace c7 := Bool.eq_false_iff.mpr c7
   subst c7
   have H1 : (impl_ValidPacking.j0 k a1 l2 true a0_0 l0_1) = some r := by rw [if_neg (show ¬ (false = true) by decide)] at H; exact H
   clear H
   have H := H1
   clear H1
   have H' := Aside0.mk H
   clear H
   obtain ⟨hcz11_0, hcz11_1, hfz11_0, hfz11_1⟩ := cz2_ BK559.out
   go_wp2_with (first | ((with_reducible refine gate_callee (f := 24) rfl ?_); refine goesL_ (some 11) rfl rfl Try.func24 (by kernel_rfl) rfl #[.agg #[.int .i64 a0_0, .slice A0_1 l0_1.length c0_1]] rfl mp_ ?_; (with_reducible refine (impl_ValidTree.calls k a0_0 _ _ l0_1 false _ ?side1 ?side2 A6.out).mono ?_); (case side1 => exact ca_ (Kd.C_below HR0_1.out HB.out)); (case side2 => exact HC0_1.out); rintro e w12 ⟨rfl, hb⟩; refine ⟨_, rfl, ?_⟩; have n0_ := Aside0.mk (blk_below (g := gb559) (o := .cells #[.int .i64 a0_0, .slice A0_1 l0_1.length c0_1] 26 (0, 0)) (bk_ BK559.out) hb); have n1_ := Aside0.mk (below_step (bl1_ HB.out GE559.out) hb); clear BK559; clear HB; have BK559 := n0_; have HB := n1_; clear n0_ n1_; (try clear hb); (try clear hb2); (try clear hk); (try clear hi)))
   go_meet
   case rel => exact ⟨_, (true), rs_, H', ⟨by first | omega | exact Nat.le_refl _⟩, ⟨bk_ BK559.out⟩, ⟨bl1_ HB.out GE559.out⟩⟩
 case rest =>
  clear HC4
  try clear c1
  try clear c2
  try clear p2
  try clear c7
  try clear c10
  try clear hcz11_0
  try clear hcz11_1
  try clear hcz9_0
  try clear hcz9_1
  try clear hfz11_0
  try clear hfz11_1
  try clear hfz9_0
  try clear hfz9_1
  obtain ⟨kq, x17_3, rfl, HA, HJ3, BK559, HB⟩ := hcut
  cases kq with
  | zero => exact absurd HA.out (by simp [impl_ValidPacking.j0])
  | succ kj3 =>
   have H := HA.out
   clear HA
   simp only [impl_ValidPacking.j0] at H
   by_cases c13 : x17_3 = true
   ·subst c13
    have H1 : (some false) = some r := by rw [if_pos rfl] at H; exact H
    clear H
    have H := H1
    clear H1
    obtain rfl := Option.some.inj H
    go_wp2
    go_ret
    exact ⟨re_, bl1_ HB.out GE559.out⟩
   ·replace c13 := Bool.eq_false_iff.mpr c13
    subst c13
    have H1 : ((impl_Tree_leafDistances.f kj3 a0_0 l0_1).bind fun t562 => (if (l2.length : Int) = (t562.length : Int) then (impl_ValidPacking.l0 kj3 a1 l2 t562 l2 (l2.length : Int) 0) else (some false))) = some r := by rw [if_neg (show ¬ (false = true) by decide)] at H; exact H
    clear H
    have H := H1
    clear H1
    replace H := Option.bind_eq_some_iff.mp H
    obtain ⟨t562, A140, H⟩ := H
    replace H : (if (l2.length : Int) = (t562.length : Int) then (impl_ValidPacking.l0 kj3 a1 l2 t562 l2 (l2.length : Int) 0) else (some false)) = some r := H
    have A14 := Aside0.mk A140
    clear A140
    by_cases c15 : (l2.length : Int) = (t562.length : Int)
    ·rw [if_pos c15] at H
     have c15b0 : ((l2.length : Int) == (t562.length : Int)) = true := beq_iff_eq.mpr c15
     have c15b1 : ((l2.length : Int) != (t562.length : Int)) = false := bne_eq_false_iff_eq.mpr c15
     have c15b2 : (l2.length == t562.length) = true := by first | simpa using c15 | (simp at c15 ⊢; omega)
     clear c15
     have H' := Aside0.mk H
     clear H
     obtain ⟨hcz16_0, hcz16_1, hfz16_0, hfz16_1⟩ := cz2_ BK559.out
     go_wp2_with (first | ((with_reducible refine gate_callee (f := 28) rfl ?_); refine goesL_ (some 19) rfl rfl Try.func28 (by kernel_rfl) rfl #[.agg #[.int .i64 a0_0, .slice A0_1 l0_1.length c0_1]] rfl mp_ ?_; (with_reducible refine (impl_Tree_leafDistances.calls kj3 a0_0 _ _ l0_1 t562 _ ?side1 ?side2 A14.out).mono ?_); (case side1 => exact ca_ (Kd.C_below HR0_1.out HB.out)); (case side2 => exact HC0_1.out); rintro e w17 ⟨v563, rfl, ho0, hb⟩; refine ⟨_, rfl, ?_⟩; have n0_ := Aside0.mk (Kd.S_lower ho0 (below_size (bl1_ HB.out GE559.out))); have n1_ := Aside0.mk (blk_below (g := gb559) (o := .cells #[.int .i64 a0_0, .slice A0_1 l0_1.length c0_1] 26 (0, 0)) (bk_ BK559.out) hb); have n2_ := Aside0.mk (below_step (bl1_ HB.out GE559.out) hb); clear BK559; clear HB; have HO564 := n0_; have BK559 := n1_; have HB := n2_; clear n0_ n1_ n2_; (try clear hb); (try clear hb2); (try clear hk); (try clear hi); (try clear ho0); obtain ⟨Ao18, co18, eo18⟩ := Kd.S_slice HO564.out; subst eo18))
     go_loopg [27] kj3 (fun kq v27 w' => ∃ (x27_2 : Int), v27 = .int .i64 x27_2 ∧ Aside0 (impl_ValidPacking.l0 kq a1 l2 t562 l2 (l2.length : Int) x27_2 = some r) ∧ Aside0 (kq ≤ kj3) ∧ Aside0 (Kd.S (Kd.slice 2 (Kd.int .i64)) 59 w' w.heap.size (fun _ => True) (.slice Ao18 t562.length co18) t562) ∧ Aside0 (w'.heap[gb559]? = some (.cells #[.int .i64 a0_0, (.slice A0_1 l0_1.length c0_1)] 26 (0, 0))) ∧ Aside0 (Below w.heap.size w w'))
     case atStart => exact ⟨(0), rs_, H', ⟨Nat.le_refl _⟩, ⟨by (with_reducible repeat (first | apply Kd.S_alloc | apply Kd.S_drewN | apply Kd.S_drew)); exact HO564.out⟩, ⟨bk_ BK559.out⟩, ⟨bl1_ HB.out GE559.out⟩⟩
     case round =>
      clear H'
      try clear c1
      try clear c2
      try clear p2
      try clear c7
      try clear c10
      try clear c13
      try clear c15
      try clear c15b0
      try clear c15b1
      try clear c15b2
      try clear hcz11_0
      try clear hcz11_1
      try clear hcz16_0
      try clear hcz16_1
      try clear hcz9_0
      try clear hcz9_1
      try clear hfz11_0
      try clear hfz11_1
      try clear hfz16_0
      try clear hfz16_1
      try clear hfz9_0
      try clear hfz9_1
      try clear p2
      obtain ⟨x27_2, rfl, HA, HK2, HO_7, BK559, HB⟩ := hrel
      cases gk with
      | zero => exact absurd HA.out (by simp [impl_ValidPacking.l0])
      | succ k2 =>
       have H := HA.out
       clear HA
       simp only [impl_ValidPacking.l0] at H
       by_cases c19 : x27_2 < (l2.length : Int)
       ·rw [if_pos c19] at H
        have c19b0 := decide_eq_true c19
        clear c19
        by_cases c20 : 0 ≤ x27_2
        rotate_left
        ·exact nope_ c20 H
        rw [if_pos c20] at H
        have c20b0 := decide_eq_true c20
        clear c20
        by_cases c21 : x27_2 < (l2.length : Int)
        rotate_left
        ·exact nope_ c21 H
        rw [if_pos c21] at H
        have c21b0 := decide_eq_true c21
        clear c21
        replace H := Option.bind_eq_some_iff.mp H
        obtain ⟨t567, A220, H⟩ := H
        replace H : (if t567 = true then ((impl_within.f ((rd_T37 l2 x27_2).f1) 0 a1).bind fun t568 => (if t568 = true then (if 0 ≤ (wrap64 (x27_2 + 1)) then (if (wrap64 (x27_2 + 1)) ≤ (l2.length : Int) then ((impl_isApart.f k2 t562 (l2.take ((wrap64 (x27_2 + 1)) : Int).toNat)).bind fun t573 => (if t573 = true then (impl_ValidPacking.l0 k2 a1 l2 t562 l2 (l2.length : Int) (wrap64 (x27_2 + 1))) else (some false))) else (none)) else (none)) else (some false))) else (some false)) = some r := H
        have A22 := Aside0.mk A220
        clear A220
        by_cases c23 : t567 = true
        ·subst c23
         have H1 : ((impl_within.f ((rd_T37 l2 x27_2).f1) 0 a1).bind fun t568 => (if t568 = true then (if 0 ≤ (wrap64 (x27_2 + 1)) then (if (wrap64 (x27_2 + 1)) ≤ (l2.length : Int) then ((impl_isApart.f k2 t562 (l2.take ((wrap64 (x27_2 + 1)) : Int).toNat)).bind fun t573 => (if t573 = true then (impl_ValidPacking.l0 k2 a1 l2 t562 l2 (l2.length : Int) (wrap64 (x27_2 + 1))) else (some false))) else (none)) else (none)) else (some false))) = some r := by rw [if_pos rfl] at H; exact H
         clear H
         have H := H1
         clear H1
         replace H := Option.bind_eq_some_iff.mp H
         obtain ⟨t568, A240, H⟩ := H
         replace H : (if t568 = true then (if 0 ≤ (wrap64 (x27_2 + 1)) then (if (wrap64 (x27_2 + 1)) ≤ (l2.length : Int) then ((impl_isApart.f k2 t562 (l2.take ((wrap64 (x27_2 + 1)) : Int).toNat)).bind fun t573 => (if t573 = true then (impl_ValidPacking.l0 k2 a1 l2 t562 l2 (l2.length : Int) (wrap64 (x27_2 + 1))) else (some false))) else (none)) else (none)) else (some false)) = some r := H
         have A24 := Aside0.mk A240
         clear A240
         by_cases c25 : t568 = true
         ·subst c25
          have H1 : (if 0 ≤ (wrap64 (x27_2 + 1)) then (if (wrap64 (x27_2 + 1)) ≤ (l2.length : Int) then ((impl_isApart.f k2 t562 (l2.take ((wrap64 (x27_2 + 1)) : Int).toNat)).bind fun t573 => (if t573 = true then (impl_ValidPacking.l0 k2 a1 l2 t562 l2 (l2.length : Int) (wrap64 (x27_2 + 1))) else (some false))) else (none)) else (none)) = some r := by rw [if_pos rfl] at H; exact H
          clear H
          have H := H1
          clear H1
          obtain ⟨ji26, hji26⟩ : ∃ j_ : Int, (wrap64 (x27_2 + 1)) = j_ := ⟨_, rfl⟩
          replace H : (if 0 ≤ (ji26) then (if (ji26) ≤ (l2.length : Int) then ((impl_isApart.f k2 t562 (l2.take ((ji26) : Int).toNat)).bind fun t573 => (if t573 = true then (impl_ValidPacking.l0 k2 a1 l2 t562 l2 (l2.length : Int) ji26) else (some false))) else (none)) else (none)) = some r := by first | (rw [hji26] at H; exact H) | (simp only [hji26] at H ⊢; exact H)
          (try rw [hji26] at A22)
          (try rw [hji26] at A24)
          have hji26w : (IntKind.i64.wrap (x27_2 + 1)) = ji26 := (i64_w _).trans hji26
          by_cases c27 : 0 ≤ (ji26)
          rotate_left
          ·exact nope_ c27 H
          rw [if_pos c27] at H
          have c27b0 := eq_true c27
          have c27b1 := decide_eq_true c27
          clear c27
          by_cases c28 : (ji26) ≤ (l2.length : Int)
          rotate_left
          ·exact nope_ c28 H
          rw [if_pos c28] at H
          have c28b0 := eq_true c28
          have c28b1 := decide_eq_true c28
          clear c28
          obtain ⟨y569, hy569⟩ : ∃ y_ : List (S37), y_ = (l2.take ((ji26) : Int).toNat) := ⟨_, rfl⟩
          replace H : ((impl_isApart.f k2 t562 y569).bind fun t573 => (if t573 = true then (impl_ValidPacking.l0 k2 a1 l2 t562 l2 (l2.length : Int) ji26) else (some false))) = some r := yh_ H hy569
          have Ny569 := Aside0.mk hy569
          clear hy569
          replace H := Option.bind_eq_some_iff.mp H
          obtain ⟨t573, A290, H⟩ := H
          replace H : (if t573 = true then (impl_ValidPacking.l0 k2 a1 l2 t562 l2 (l2.length : Int) ji26) else (some false)) = some r := H
          have A29 := Aside0.mk A290
          clear A290
          by_cases c30 : t573 = true
          ·subst c30
           have H1 : (impl_ValidPacking.l0 k2 a1 l2 t562 l2 (l2.length : Int) ji26) = some r := by rw [if_pos rfl] at H; exact H
           clear H
           have H := H1
           clear H1
           have H' := Aside0.mk H
           clear H
           have p565 : 0 ≤ (x27_2 : Int) := od_
           have q565 : x27_2 < (l2.length : Int) := od_
           obtain ⟨ad565, e565, hx565_0, hx565_1⟩ := at_T37 HR2.out x27_2 p565 q565
           cases e565
           replace hx565_0 := (HB.out.cell (World.block_lt_of_cell? w _ hx565_0)).trans hx565_0
           replace hx565_1 := (HB.out.cell (World.block_lt_of_cell? w _ hx565_1)).trans hx565_1
           replace p565 := eq_true p565
           replace q565 := eq_true q565
           go_wp2_with (first | ((with_reducible refine gate_dst (N := 9) rfl ?_); refine box_event ?hg (N := 9) ?hd (cs := #[.int .i64 0, .int .i64 0]) (t := 37) ?hr ?_; (case hd => rfl); (case hg => rfl); (case hr => first | (go_simp; done) | (go_simp; rfl)); intro gb566 hg w31 hbox hb; have n0_ := Aside0.mk (Kd.S_below (by (with_reducible repeat (first | apply Kd.S_alloc | apply Kd.S_drewN | apply Kd.S_drew)); exact HO_7.out) hb); have n1_ := Aside0.mk (blk_below (g := gb559) (o := .cells #[.int .i64 a0_0, .slice A0_1 l0_1.length c0_1] 26 (0, 0)) (bk_ BK559.out) hb); have n2_ := Aside0.mk (below_step (bl1_ HB.out GE559.out) hb); have n3_ := Aside0.mk (hbox); have n4_ := Aside0.mk ((by rw [hg]; exact (below_size (bl1_ HB.out GE559.out)) : w.heap.size ≤ gb566)); have n5_ := Aside0.mk ((by rw [hg]; exact (below_size (bl1_ HB.out GE559.out)) : w.heap.size ≤ gb566)); have n6_ := Aside0.mk ((by rw [hg]; exact Nat.ne_of_lt (blk_lt (bk_ BK559.out)) : gb559 ≠ gb566)); have n7_ := Aside0.mk ((by rw [hg]; exact Nat.ne_of_gt (blk_lt (bk_ BK559.out)) : gb566 ≠ gb559)); clear HO_7; clear BK559; clear HB; have HO_7 := n0_; have BK559 := n1_; have HB := n2_; have BK566 := n3_; have GW566 := n4_; have GE566 := n5_; have NB559_566 := n6_; have NB566_559 := n7_; clear n0_ n1_ n2_ n3_ n4_ n5_ n6_ n7_; clear hb hbox hg; have hnb32 := NB566_559.out; have hnc32 := NB559_566.out; obtain ⟨hcz33_0, hcz33_1, hfz33_0, hfz33_1⟩ := cz2_ BK566.out) | ((with_reducible refine gate_store (t := 37) (p := 9) rfl ?_); refine store_event (t := 37) (p := 9) (v := ?vo_w34) (w1 := ((w31.setCell ⟨gb566, 0, none⟩ (.int .i64 ((rd_T37 l2 x27_2).f0))).setCell ⟨gb566, 1, none⟩ (.int .i64 ((rd_T37 l2 x27_2).f1)))) ?hg ?ho ?hn ?hr ?_; (case ho => rfl); (case hg => rfl); (case hn => rfl); (case hr => first | (go_simp; done) | (go_simp; rfl)); intro w34 hw; have n0_ : Aside0 (Kd.S (Kd.slice 2 (Kd.int .i64)) 59 w34 w.heap.size (fun _ => True) (.slice Ao18 t562.length co18) t562) := ⟨(by rw [hw]; exact (by (with_reducible repeat (first | apply Kd.S_alloc | apply Kd.S_drewN | apply Kd.S_drew)); exact Kd.S_mono (Kd.S_far (p := ⟨gb566, 1, none⟩) (Kd.S_far (p := ⟨gb566, 0, none⟩) (Kd.S_types HO_7.out BK566.out (by decide)) (fun _ hk => hk.2) (.int .i64 ((rd_T37 l2 x27_2).f0))) (fun _ hk => hk.2) (.int .i64 ((rd_T37 l2 x27_2).f1))) (fun _ hk => trivial)))⟩; have n1_ : Aside0 (w34.heap[gb559]? = some (.cells #[.int .i64 a0_0, .slice A0_1 l0_1.length c0_1] 26 (0, 0))) := ⟨(by rw [hw]; exact (by (with_reducible repeat (first | refine blk_drewN ?_ _ | refine blk_drew ?_ | refine blk_alloc ?_ _)); refine blk_far ?_ NB559_566.out _; (with_reducible repeat (first | refine blk_drewN ?_ _ | refine blk_drew ?_ | refine blk_alloc ?_ _)); refine blk_far ?_ NB559_566.out _; (with_reducible repeat (first | refine blk_drewN ?_ _ | refine blk_drew ?_ | refine blk_alloc ?_ _)); exact BK559.out))⟩; have n2_ : Aside0 (w34.heap[gb566]? = some (.cells #[.int .i64 ((rd_T37 l2 x27_2).f0), .int .i64 ((rd_T37 l2 x27_2).f1)] 37 (0, 0))) := ⟨(by rw [hw]; exact (by (with_reducible repeat (first | refine blk_drewN ?_ _ | refine blk_drew ?_ | refine blk_alloc ?_ _)); refine blk_put (cs := #[.int .i64 ((rd_T37 l2 x27_2).f0), .int .i64 0]) ?_ 1 _ rfl; (with_reducible repeat (first | refine blk_drewN ?_ _ | refine blk_drew ?_ | refine blk_alloc ?_ _)); refine blk_put (cs := #[.int .i64 0, .int .i64 0]) ?_ 0 _ rfl; (with_reducible repeat (first | refine blk_drewN ?_ _ | refine blk_drew ?_ | refine blk_alloc ?_ _)); exact BK566.out))⟩; have n3_ : Aside0 (Below w.heap.size w w34) := ⟨(by rw [hw]; exact (bl2_ HB.out GE559.out GE566.out))⟩; clear hw; clear HO_7; clear BK559; clear BK566; clear HB; have HO_7 := n0_; have BK559 := n1_; have BK566 := n2_; have HB := n3_; clear n0_ n1_ n2_ n3_; obtain ⟨hcz35_0, hcz35_1, hfz35_0, hfz35_1⟩ := cz2_ BK566.out) | ((with_reducible refine gate_callee (f := 29) rfl ?_); refine goesL_ (some 35) rfl rfl Try.func29 (by kernel_rfl) rfl #[.int .i64 ((rd_T37 l2 x27_2).f0), .int .i64 0, .int .i64 a1] rfl mp_ ?_; (with_reducible refine (impl_within.calls ((rd_T37 l2 x27_2).f0) 0 a1 true _ A22.out).mono ?_); rintro e w' ⟨rfl, ⟨nd, rfl⟩⟩; refine ⟨_, rfl, ?_⟩) | (go_at_call 29; (with_reducible refine (impl_within.calls ((rd_T37 l2 x27_2).f1) 0 a1 true _ A24.out).mono ?_); rintro e w' ⟨rfl, ⟨nd, rfl⟩⟩; have q36 : ((ji26) : Int) ≤ ((l2.length : Int) : Int) := od_; obtain ⟨i036, hi036, _, hsz36, _⟩ := info_parts info37; have hroom36 : l2.length ≤ c2 := HC2.out; have hC36 : Kd.C k37 _ (some ad565) l2.length l2 := HR2.out; have hcut36 := cut_to (P := Try.prog) 29 37 .i64 Try.underlying29 hi036 (some ad565) l2.length c2 (ji26) (od_) q36 hroom36; have hr36 := Kd.C_take (m := ((ji26) : Int).toNat) hC36 (by omega); have hy36 : y569.length = ((ji26) : Int).toNat := (by rw [Ny569.out, List.length_take]; omega); rw [← Ny569.out] at hr36; rw [← hy36] at hcut36; have HR572 := Aside0.mk hr36; have HC572 := Aside0.mk (show y569.length ≤ c2 from by omega); clear hr36 hC36 hroom36 hi036 hsz36; have KY36 := Aside0.mk hy36; clear hy36; replace q36 := eq_true q36) | (go_at_call 30; (with_reducible refine (impl_isApart.calls k2 _ _ t562 _ _ y569 true _ ?side1 ?side2 ?side3 ?side4 A29.out).mono ?_); (case side1 => exact ca_ (Kd.S_reads' HO_7.out).2.2); (case side2 => exact (Kd.S_reads' HO_7.out).2.1); (case side3 => exact ca_ (Kd.C_below HR572.out (bl2_ HB.out GE559.out GE566.out))); (case side4 => exact HC572.out); rintro e w37 ⟨rfl, hb⟩; have n0_ := Aside0.mk (Kd.S_below (by (with_reducible repeat (first | apply Kd.S_alloc | apply Kd.S_drewN | apply Kd.S_drew)); exact HO_7.out) hb); have n1_ := Aside0.mk (blk_below (g := gb559) (o := .cells #[.int .i64 a0_0, .slice A0_1 l0_1.length c0_1] 26 (0, 0)) (bk_ BK559.out) hb); have n2_ := Aside0.mk (blk_below (g := gb566) (o := .cells #[.int .i64 ((rd_T37 l2 x27_2).f0), .int .i64 ((rd_T37 l2 x27_2).f1)] 37 (0, 0)) (bk_ BK566.out) hb); have n3_ := Aside0.mk (below_step (bl2_ HB.out GE559.out GE566.out) hb); clear HO_7; clear BK559; clear BK566; clear HB; have HO_7 := n0_; have BK559 := n1_; have BK566 := n2_; have HB := n3_; clear n0_ n1_ n2_ n3_; (try clear hb); (try clear hb2); (try clear hk); (try clear hi)))
           go_roundg k2
           case measure => have := HJ3.out; have := HK2.out; omega
           case rel => exact ⟨(ji26), (by first | rfl | (simp; done) | (simp only [← hji26] <;> (first | rfl | simp)) | (simp [*]; done)), H', ⟨by have := HJ3.out; have := HK2.out; omega⟩, ⟨by (with_reducible repeat (first | apply Kd.S_alloc | apply Kd.S_drewN | apply Kd.S_drew)); exact HO_7.out⟩, ⟨bk_ BK559.out⟩, ⟨bl2_ HB.out GE559.out GE566.out⟩⟩
          ·replace c30 := Bool.eq_false_iff.mpr c30
           subst c30
           have H1 : (some false) = some r := by rw [if_neg (show ¬ (false = true) by decide)] at H; exact H
           clear H
           have H := H1
           clear H1
           obtain rfl := Option.some.inj H
           have p565 : 0 ≤ (x27_2 : Int) := od_
           have q565 : x27_2 < (l2.length : Int) := od_
           obtain ⟨ad565, e565, hx565_0, hx565_1⟩ := at_T37 HR2.out x27_2 p565 q565
           cases e565
           replace hx565_0 := (HB.out.cell (World.block_lt_of_cell? w _ hx565_0)).trans hx565_0
           replace hx565_1 := (HB.out.cell (World.block_lt_of_cell? w _ hx565_1)).trans hx565_1
           replace p565 := eq_true p565
           replace q565 := eq_true q565
           go_wp2_with (first | ((with_reducible refine gate_dst (N := 9) rfl ?_); refine box_event ?hg (N := 9) ?hd (cs := #[.int .i64 0, .int .i64 0]) (t := 37) ?hr ?_; (case hd => rfl); (case hg => rfl); (case hr => first | (go_simp; done) | (go_simp; rfl)); intro gb566 hg w38 hbox hb; have n0_ := Aside0.mk (Kd.S_below (by (with_reducible repeat (first | apply Kd.S_alloc | apply Kd.S_drewN | apply Kd.S_drew)); exact HO_7.out) hb); have n1_ := Aside0.mk (blk_below (g := gb559) (o := .cells #[.int .i64 a0_0, .slice A0_1 l0_1.length c0_1] 26 (0, 0)) (bk_ BK559.out) hb); have n2_ := Aside0.mk (below_step (bl1_ HB.out GE559.out) hb); have n3_ := Aside0.mk (hbox); have n4_ := Aside0.mk ((by rw [hg]; exact (below_size (bl1_ HB.out GE559.out)) : w.heap.size ≤ gb566)); have n5_ := Aside0.mk ((by rw [hg]; exact (below_size (bl1_ HB.out GE559.out)) : w.heap.size ≤ gb566)); have n6_ := Aside0.mk ((by rw [hg]; exact Nat.ne_of_lt (blk_lt (bk_ BK559.out)) : gb559 ≠ gb566)); have n7_ := Aside0.mk ((by rw [hg]; exact Nat.ne_of_gt (blk_lt (bk_ BK559.out)) : gb566 ≠ gb559)); clear HO_7; clear BK559; clear HB; have HO_7 := n0_; have BK559 := n1_; have HB := n2_; have BK566 := n3_; have GW566 := n4_; have GE566 := n5_; have NB559_566 := n6_; have NB566_559 := n7_; clear n0_ n1_ n2_ n3_ n4_ n5_ n6_ n7_; clear hb hbox hg; have hnb39 := NB566_559.out; have hnc39 := NB559_566.out; obtain ⟨hcz40_0, hcz40_1, hfz40_0, hfz40_1⟩ := cz2_ BK566.out) | ((with_reducible refine gate_store (t := 37) (p := 9) rfl ?_); refine store_event (t := 37) (p := 9) (v := ?vo_w41) (w1 := ((w38.setCell ⟨gb566, 0, none⟩ (.int .i64 ((rd_T37 l2 x27_2).f0))).setCell ⟨gb566, 1, none⟩ (.int .i64 ((rd_T37 l2 x27_2).f1)))) ?hg ?ho ?hn ?hr ?_; (case ho => rfl); (case hg => rfl); (case hn => rfl); (case hr => first | (go_simp; done) | (go_simp; rfl)); intro w41 hw; have n0_ : Aside0 (Kd.S (Kd.slice 2 (Kd.int .i64)) 59 w41 w.heap.size (fun _ => True) (.slice Ao18 t562.length co18) t562) := ⟨(by rw [hw]; exact (by (with_reducible repeat (first | apply Kd.S_alloc | apply Kd.S_drewN | apply Kd.S_drew)); exact Kd.S_mono (Kd.S_far (p := ⟨gb566, 1, none⟩) (Kd.S_far (p := ⟨gb566, 0, none⟩) (Kd.S_types HO_7.out BK566.out (by decide)) (fun _ hk => hk.2) (.int .i64 ((rd_T37 l2 x27_2).f0))) (fun _ hk => hk.2) (.int .i64 ((rd_T37 l2 x27_2).f1))) (fun _ hk => trivial)))⟩; have n1_ : Aside0 (w41.heap[gb559]? = some (.cells #[.int .i64 a0_0, .slice A0_1 l0_1.length c0_1] 26 (0, 0))) := ⟨(by rw [hw]; exact (by (with_reducible repeat (first | refine blk_drewN ?_ _ | refine blk_drew ?_ | refine blk_alloc ?_ _)); refine blk_far ?_ NB559_566.out _; (with_reducible repeat (first | refine blk_drewN ?_ _ | refine blk_drew ?_ | refine blk_alloc ?_ _)); refine blk_far ?_ NB559_566.out _; (with_reducible repeat (first | refine blk_drewN ?_ _ | refine blk_drew ?_ | refine blk_alloc ?_ _)); exact BK559.out))⟩; have n2_ : Aside0 (w41.heap[gb566]? = some (.cells #[.int .i64 ((rd_T37 l2 x27_2).f0), .int .i64 ((rd_T37 l2 x27_2).f1)] 37 (0, 0))) := ⟨(by rw [hw]; exact (by (with_reducible repeat (first | refine blk_drewN ?_ _ | refine blk_drew ?_ | refine blk_alloc ?_ _)); refine blk_put (cs := #[.int .i64 ((rd_T37 l2 x27_2).f0), .int .i64 0]) ?_ 1 _ rfl; (with_reducible repeat (first | refine blk_drewN ?_ _ | refine blk_drew ?_ | refine blk_alloc ?_ _)); refine blk_put (cs := #[.int .i64 0, .int .i64 0]) ?_ 0 _ rfl; (with_reducible repeat (first | refine blk_drewN ?_ _ | refine blk_drew ?_ | refine blk_alloc ?_ _)); exact BK566.out))⟩; have n3_ : Aside0 (Below w.heap.size w w41) := ⟨(by rw [hw]; exact (bl2_ HB.out GE559.out GE566.out))⟩; clear hw; clear HO_7; clear BK559; clear BK566; clear HB; have HO_7 := n0_; have BK559 := n1_; have BK566 := n2_; have HB := n3_; clear n0_ n1_ n2_ n3_; obtain ⟨hcz42_0, hcz42_1, hfz42_0, hfz42_1⟩ := cz2_ BK566.out) | ((with_reducible refine gate_callee (f := 29) rfl ?_); refine goesL_ (some 35) rfl rfl Try.func29 (by kernel_rfl) rfl #[.int .i64 ((rd_T37 l2 x27_2).f0), .int .i64 0, .int .i64 a1] rfl mp_ ?_; (with_reducible refine (impl_within.calls ((rd_T37 l2 x27_2).f0) 0 a1 true _ A22.out).mono ?_); rintro e w' ⟨rfl, ⟨nd, rfl⟩⟩; refine ⟨_, rfl, ?_⟩) | (go_at_call 29; (with_reducible refine (impl_within.calls ((rd_T37 l2 x27_2).f1) 0 a1 true _ A24.out).mono ?_); rintro e w' ⟨rfl, ⟨nd, rfl⟩⟩; have q43 : ((ji26) : Int) ≤ ((l2.length : Int) : Int) := od_; obtain ⟨i043, hi043, _, hsz43, _⟩ := info_parts info37; have hroom43 : l2.length ≤ c2 := HC2.out; have hC43 : Kd.C k37 _ (some ad565) l2.length l2 := HR2.out; have hcut43 := cut_to (P := Try.prog) 29 37 .i64 Try.underlying29 hi043 (some ad565) l2.length c2 (ji26) (od_) q43 hroom43; have hr43 := Kd.C_take (m := ((ji26) : Int).toNat) hC43 (by omega); have hy43 : y569.length = ((ji26) : Int).toNat := (by rw [Ny569.out, List.length_take]; omega); rw [← Ny569.out] at hr43; rw [← hy43] at hcut43; have HR572 := Aside0.mk hr43; have HC572 := Aside0.mk (show y569.length ≤ c2 from by omega); clear hr43 hC43 hroom43 hi043 hsz43; have KY43 := Aside0.mk hy43; clear hy43; replace q43 := eq_true q43) | (go_at_call 30; (with_reducible refine (impl_isApart.calls k2 _ _ t562 _ _ y569 false _ ?side1 ?side2 ?side3 ?side4 A29.out).mono ?_); (case side1 => exact ca_ (Kd.S_reads' HO_7.out).2.2); (case side2 => exact (Kd.S_reads' HO_7.out).2.1); (case side3 => exact ca_ (Kd.C_below HR572.out (bl2_ HB.out GE559.out GE566.out))); (case side4 => exact HC572.out); rintro e w44 ⟨rfl, hb⟩; have n0_ := Aside0.mk (Kd.S_below (by (with_reducible repeat (first | apply Kd.S_alloc | apply Kd.S_drewN | apply Kd.S_drew)); exact HO_7.out) hb); have n1_ := Aside0.mk (blk_below (g := gb559) (o := .cells #[.int .i64 a0_0, .slice A0_1 l0_1.length c0_1] 26 (0, 0)) (bk_ BK559.out) hb); have n2_ := Aside0.mk (blk_below (g := gb566) (o := .cells #[.int .i64 ((rd_T37 l2 x27_2).f0), .int .i64 ((rd_T37 l2 x27_2).f1)] 37 (0, 0)) (bk_ BK566.out) hb); have n3_ := Aside0.mk (below_step (bl2_ HB.out GE559.out GE566.out) hb); clear HO_7; clear BK559; clear BK566; clear HB; have HO_7 := n0_; have BK559 := n1_; have BK566 := n2_; have HB := n3_; clear n0_ n1_ n2_ n3_; (try clear hb); (try clear hb2); (try clear hk); (try clear hi)))
           go_ret
           exact ⟨by first | rfl | (simp [errW_none, errW_some] <;> rfl) | (simp only [← hji26]; first | rfl | (simp [errW_none, errW_some] <;> rfl)) | (simp [*, errW_none, errW_some] <;> rfl), bl2_ HB.out GE559.out GE566.out⟩
         ·replace c25 := Bool.eq_false_iff.mpr c25
          subst c25
          have H1 : (some false) = some r := by rw [if_neg (show ¬ (false = true) by decide)] at H; exact H
          clear H
          have H := H1
          clear H1
          obtain rfl := Option.some.inj H
          have p565 : 0 ≤ (x27_2 : Int) := od_
          have q565 : x27_2 < (l2.length : Int) := od_
          obtain ⟨ad565, e565, hx565_0, hx565_1⟩ := at_T37 HR2.out x27_2 p565 q565
          cases e565
          replace hx565_0 := (HB.out.cell (World.block_lt_of_cell? w _ hx565_0)).trans hx565_0
          replace hx565_1 := (HB.out.cell (World.block_lt_of_cell? w _ hx565_1)).trans hx565_1
          replace p565 := eq_true p565
          replace q565 := eq_true q565
          go_wp2_with (first | ((with_reducible refine gate_dst (N := 9) rfl ?_); refine box_event ?hg (N := 9) ?hd (cs := #[.int .i64 0, .int .i64 0]) (t := 37) ?hr ?_; (case hd => rfl); (case hg => rfl); (case hr => first | (go_simp; done) | (go_simp; rfl)); intro gb566 hg w45 hbox hb; have n0_ := Aside0.mk (Kd.S_below (by (with_reducible repeat (first | apply Kd.S_alloc | apply Kd.S_drewN | apply Kd.S_drew)); exact HO_7.out) hb); have n1_ := Aside0.mk (blk_below (g := gb559) (o := .cells #[.int .i64 a0_0, .slice A0_1 l0_1.length c0_1] 26 (0, 0)) (bk_ BK559.out) hb); have n2_ := Aside0.mk (below_step (bl1_ HB.out GE559.out) hb); have n3_ := Aside0.mk (hbox); have n4_ := Aside0.mk ((by rw [hg]; exact (below_size (bl1_ HB.out GE559.out)) : w.heap.size ≤ gb566)); have n5_ := Aside0.mk ((by rw [hg]; exact (below_size (bl1_ HB.out GE559.out)) : w.heap.size ≤ gb566)); have n6_ := Aside0.mk ((by rw [hg]; exact Nat.ne_of_lt (blk_lt (bk_ BK559.out)) : gb559 ≠ gb566)); have n7_ := Aside0.mk ((by rw [hg]; exact Nat.ne_of_gt (blk_lt (bk_ BK559.out)) : gb566 ≠ gb559)); clear HO_7; clear BK559; clear HB; have HO_7 := n0_; have BK559 := n1_; have HB := n2_; have BK566 := n3_; have GW566 := n4_; have GE566 := n5_; have NB559_566 := n6_; have NB566_559 := n7_; clear n0_ n1_ n2_ n3_ n4_ n5_ n6_ n7_; clear hb hbox hg; have hnb46 := NB566_559.out; have hnc46 := NB559_566.out; obtain ⟨hcz47_0, hcz47_1, hfz47_0, hfz47_1⟩ := cz2_ BK566.out) | ((with_reducible refine gate_callee (f := 29) rfl ?_); refine goesL_ (some 35) rfl rfl Try.func29 (by kernel_rfl) rfl #[.int .i64 ((rd_T37 l2 x27_2).f0), .int .i64 0, .int .i64 a1] rfl mp_ ?_; (with_reducible refine (impl_within.calls ((rd_T37 l2 x27_2).f0) 0 a1 true _ A22.out).mono ?_); rintro e w' ⟨rfl, ⟨nd, rfl⟩⟩; refine ⟨_, rfl, ?_⟩) | (go_at_call 29; (with_reducible refine (impl_within.calls ((rd_T37 l2 x27_2).f1) 0 a1 false _ A24.out).mono ?_); rintro e w' ⟨rfl, ⟨nd, rfl⟩⟩))
          go_ret
          exact ⟨re_, bl2_ HB.out GE559.out GE566.out⟩
        ·replace c23 := Bool.eq_false_iff.mpr c23
         subst c23
         have H1 : (some false) = some r := by rw [if_neg (show ¬ (false = true) by decide)] at H; exact H
         clear H
         have H := H1
         clear H1
         obtain rfl := Option.some.inj H
         have p565 : 0 ≤ (x27_2 : Int) := od_
         have q565 : x27_2 < (l2.length : Int) := od_
         obtain ⟨ad565, e565, hx565_0, hx565_1⟩ := at_T37 HR2.out x27_2 p565 q565
         cases e565
         replace hx565_0 := (HB.out.cell (World.block_lt_of_cell? w _ hx565_0)).trans hx565_0
         replace hx565_1 := (HB.out.cell (World.block_lt_of_cell? w _ hx565_1)).trans hx565_1
         replace p565 := eq_true p565
         replace q565 := eq_true q565
         go_wp2_with (first | ((with_reducible refine gate_dst (N := 9) rfl ?_); refine box_event ?hg (N := 9) ?hd (cs := #[.int .i64 0, .int .i64 0]) (t := 37) ?hr ?_; (case hd => rfl); (case hg => rfl); (case hr => first | (go_simp; done) | (go_simp; rfl)); intro gb566 hg w48 hbox hb; have n0_ := Aside0.mk (Kd.S_below (by (with_reducible repeat (first | apply Kd.S_alloc | apply Kd.S_drewN | apply Kd.S_drew)); exact HO_7.out) hb); have n1_ := Aside0.mk (blk_below (g := gb559) (o := .cells #[.int .i64 a0_0, .slice A0_1 l0_1.length c0_1] 26 (0, 0)) (bk_ BK559.out) hb); have n2_ := Aside0.mk (below_step (bl1_ HB.out GE559.out) hb); have n3_ := Aside0.mk (hbox); have n4_ := Aside0.mk ((by rw [hg]; exact (below_size (bl1_ HB.out GE559.out)) : w.heap.size ≤ gb566)); have n5_ := Aside0.mk ((by rw [hg]; exact (below_size (bl1_ HB.out GE559.out)) : w.heap.size ≤ gb566)); have n6_ := Aside0.mk ((by rw [hg]; exact Nat.ne_of_lt (blk_lt (bk_ BK559.out)) : gb559 ≠ gb566)); have n7_ := Aside0.mk ((by rw [hg]; exact Nat.ne_of_gt (blk_lt (bk_ BK559.out)) : gb566 ≠ gb559)); clear HO_7; clear BK559; clear HB; have HO_7 := n0_; have BK559 := n1_; have HB := n2_; have BK566 := n3_; have GW566 := n4_; have GE566 := n5_; have NB559_566 := n6_; have NB566_559 := n7_; clear n0_ n1_ n2_ n3_ n4_ n5_ n6_ n7_; clear hb hbox hg; have hnb49 := NB566_559.out; have hnc49 := NB559_566.out; obtain ⟨hcz50_0, hcz50_1, hfz50_0, hfz50_1⟩ := cz2_ BK566.out) | ((with_reducible refine gate_callee (f := 29) rfl ?_); refine goesL_ (some 35) rfl rfl Try.func29 (by kernel_rfl) rfl #[.int .i64 ((rd_T37 l2 x27_2).f0), .int .i64 0, .int .i64 a1] rfl mp_ ?_; (with_reducible refine (impl_within.calls ((rd_T37 l2 x27_2).f0) 0 a1 false _ A22.out).mono ?_); rintro e w' ⟨rfl, ⟨nd, rfl⟩⟩; refine ⟨_, rfl, ?_⟩))
         go_ret
         exact ⟨re_, bl2_ HB.out GE559.out GE566.out⟩
       ·rw [if_neg c19] at H
        have c19b0 := decide_eq_false c19
        clear c19
        obtain rfl := Option.some.inj H
        go_wp2
        go_ret
        exact ⟨re_, bl1_ HB.out GE559.out⟩
    ·rw [if_neg c15] at H
     have c15b0 : ((l2.length : Int) == (t562.length : Int)) = false := beq_eq_false_iff_ne.mpr c15
     have c15b1 : ((l2.length : Int) != (t562.length : Int)) = true := bne_iff_ne.mpr c15
     have c15b2 : (l2.length == t562.length) = false := by first | simpa using c15 | (simp at c15 ⊢; omega)
     obtain rfl := Option.some.inj H
     obtain ⟨hcz51_0, hcz51_1, hfz51_0, hfz51_1⟩ := cz2_ BK559.out
     go_wp2_with (first | ((with_reducible refine gate_callee (f := 28) rfl ?_); refine goesL_ (some 19) rfl rfl Try.func28 (by kernel_rfl) rfl #[.agg #[.int .i64 a0_0, .slice A0_1 l0_1.length c0_1]] rfl mp_ ?_; (with_reducible refine (impl_Tree_leafDistances.calls kj3 a0_0 _ _ l0_1 t562 _ ?side1 ?side2 A14.out).mono ?_); (case side1 => exact ca_ (Kd.C_below HR0_1.out HB.out)); (case side2 => exact HC0_1.out); rintro e w52 ⟨v563, rfl, ho0, hb⟩; refine ⟨_, rfl, ?_⟩; have n0_ := Aside0.mk (Kd.S_lower ho0 (below_size (bl1_ HB.out GE559.out))); have n1_ := Aside0.mk (blk_below (g := gb559) (o := .cells #[.int .i64 a0_0, .slice A0_1 l0_1.length c0_1] 26 (0, 0)) (bk_ BK559.out) hb); have n2_ := Aside0.mk (below_step (bl1_ HB.out GE559.out) hb); clear BK559; clear HB; have HO564 := n0_; have BK559 := n1_; have HB := n2_; clear n0_ n1_ n2_; (try clear hb); (try clear hb2); (try clear hk); (try clear hi); (try clear ho0); obtain ⟨Ao53, co53, eo53⟩ := Kd.S_slice HO564.out; subst eo53))
     go_ret
     exact ⟨re_, bl1_ HB.out GE559.out⟩

end Go.Proofs.Ytmckbecegiegaaa.A
