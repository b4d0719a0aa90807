/- For functions of the translation: a Lean function each, and that the call of the Go function comes to its answer. Written by this session's own program (myprint.py, over the kit's printer). -/
import Derived.Test.YtmckbecegiegaaaAx0
import Derived.Test.YtmckbecegiegaaaAx9
import Derived.Test.YtmckbecegiegaaaAx11
import Derived.Test.YtmckbecegiegaaaAx15
import Derived.Test.YtmckbecegiegaaaAx18
--compacted
namespace Go.Proofs.Ytmckbecegiegaaa.A
open Go.RowKit Go.Proofs.YtmckbecegiegaaaW.PrintWords Go.Proofs.YtmckbecegiegaaaW.PrintLast Go.Proofs.YtmckbecegiegaaaW.PrintMore
attribute [local go_sem] max2_int min2_int max_two min_two max_three min_three max_four min_four   -- for this text's walks alone
set_option linter.unusedVariables false
set_option linter.unusedSimpArgs false

/-! ### spec_SmallestSide: function 14 -/
mutual
def spec_SmallestSide.j0 : Nat → Int → Int → Bool → Int → List (S75) → Option (Int × Int)
 | 0, _, _, _, _, _ => none
 | k + 1, x1, x2, x21, x454000, x454001 => if x21 = true then (some (0, 2)) else (spec_SmallestSide.l0 k x1 x2 1 x454000 x454001)
def spec_SmallestSide.l0 : Nat → Int → Int → Int → Int → List (S75) → Option (Int × Int)
 | 0, _, _, _, _, _ => none
 | k + 1, x1, x2, x8, x454000, x454001 => if x8 ≤ x1 then ((spec_l30First.f k x454000 x454001 x8 x2).bind fun bt457 => (if bt457.2.2 = 0 then (some (x8, 0)) else (if bt457.2.2 = 10 then (some (0, bt457.2.2)) else (spec_SmallestSide.l0 k x1 x2 (wrap64 (x8 + 1)) x454000 x454001)))) else (some (0, 3))
end
def spec_SmallestSide.f (k : Nat) (a0_0 : Int) (l0_1 : List (S75)) (a1 : Int) (a2 : Int) : Option (Int × Int) := (spec_l30Ok.f k a0_0 l0_1).bind fun t454 => (if t454 = true then ((spec_l00In.f a1 1 40).bind fun t455 => (if t455 = true then ((spec_l00In.f a2 0 20000).bind fun t456 => (spec_SmallestSide.j0 k a1 a2 (!t456) a0_0 l0_1)) else (spec_SmallestSide.j0 k a1 a2 true a0_0 l0_1))) else (some (0, 1)))
theorem spec_SmallestSide.mono_l : ∀ k, (∀ y0 y1 y2 y3 y4, LeO (spec_SmallestSide.j0 k y0 y1 y2 y3 y4) (spec_SmallestSide.j0 (k + 1) y0 y1 y2 y3 y4)) ∧ (∀ y0 y1 y2 y3 y4, LeO (spec_SmallestSide.l0 k y0 y1 y2 y3 y4) (spec_SmallestSide.l0 (k + 1) y0 y1 y2 y3 y4))
 | 0 => ⟨fun _ _ _ _ _ r h => by simp [spec_SmallestSide.j0] at h, fun _ _ _ _ _ r h => by simp [spec_SmallestSide.l0] at h⟩
 | k + 1 => by
  obtain ⟨ih0, ih1⟩ := spec_SmallestSide.mono_l k
  refine ⟨?_, ?_⟩
  ·intro y0 y1 y2 y3 y4
   unfold spec_SmallestSide.j0
   repeat' first
   | (with_reducible exact ih0 _ _ _ _ _)
   | (with_reducible exact ih1 _ _ _ _ _)
   | (with_reducible exact spec_l30First.mono _ _ _ _ _)
   | (with_reducible exact spec_l30Ok.mono _ _ _)
   | (with_reducible exact LeO.refl _)
   | (with_reducible exact LeO.none _)
   | (with_reducible refine LeO.ite ?_ ?_)
   | (with_reducible refine LeO.bind ?_ (fun _ => ?_))
   | exact spec_l30First.mono _ _ _ _ _
   | exact spec_l30Ok.mono _ _ _
   | exact LeO.none _
   | refine LeO.ite ?_ ?_
   | refine LeO.bind ?_ (fun _ => ?_)
  ·intro y0 y1 y2 y3 y4
   unfold spec_SmallestSide.l0
   repeat' first
   | (with_reducible exact ih0 _ _ _ _ _)
   | (with_reducible exact ih1 _ _ _ _ _)
   | (with_reducible exact spec_l30First.mono _ _ _ _ _)
   | (with_reducible exact spec_l30Ok.mono _ _ _)
   | (with_reducible exact LeO.refl _)
   | (with_reducible exact LeO.none _)
   | (with_reducible refine LeO.ite ?_ ?_)
   | (with_reducible refine LeO.bind ?_ (fun _ => ?_))
   | exact spec_l30First.mono _ _ _ _ _
   | exact spec_l30Ok.mono _ _ _
   | exact LeO.none _
   | refine LeO.ite ?_ ?_
   | refine LeO.bind ?_ (fun _ => ?_)
theorem spec_SmallestSide.mono : ∀ a0 a1 a2 a3 k, LeO (spec_SmallestSide.f k a0 a1 a2 a3) (spec_SmallestSide.f (k + 1) a0 a1 a2 a3) := by
 intro a0 a1 a2 a3 k
 obtain ⟨ih0, ih1⟩ := spec_SmallestSide.mono_l k
 unfold spec_SmallestSide.f
 repeat' first
   | (with_reducible exact ih0 _ _ _ _ _)
   | (with_reducible exact ih1 _ _ _ _ _)
   | (with_reducible exact spec_l30First.mono _ _ _ _ _)
   | (with_reducible exact spec_l30Ok.mono _ _ _)
   | (with_reducible exact LeO.refl _)
   | (with_reducible exact LeO.none _)
   | (with_reducible refine LeO.ite ?_ ?_)
   | (with_reducible refine LeO.bind ?_ (fun _ => ?_))
   | exact spec_l30First.mono _ _ _ _ _
   | exact spec_l30Ok.mono _ _ _
   | exact LeO.none _
   | refine LeO.ite ?_ ?_
   | refine LeO.bind ?_ (fun _ => ?_)
set_option maxHeartbeats 8000000 in
set_option maxRecDepth 100000 in
theorem spec_SmallestSide.calls (k : Nat) (a0_0 : Int) (A0_1 : Option Addr) (c0_1 : Nat) (l0_1 : List (S75)) (a1 : Int) (a2 : Int) (r1 : Int) (r2 : Int) (w : World) (hr0_1 : Kd.C k75 w A0_1 l0_1.length l0_1) (hc0_1 : l0_1.length ≤ c0_1) (h : spec_SmallestSide.f k a0_0 l0_1 a1 a2 = some (r1, r2)) :
  Calls Try.prog 14 #[.agg #[.int .i64 a0_0, .slice A0_1 l0_1.length c0_1], .int .i64 a1, .int .i64 a2] w fun e w' => e = .returned (.tuple #[.int .i64 r1, .int .i64 r2]) ∧ Below w.heap.size w w' := by
 have hu26 := Try.underlying26
 have HR0_1 := Aside0.mk hr0_1
 have HC0_1 := Aside0.mk hc0_1
 clear hr0_1 hc0_1
 have HB := Aside0.mk (Below.refl w.heap.size w)
 have H : ((spec_l30Ok.f k a0_0 l0_1).bind fun t454 => (if t454 = true then ((spec_l00In.f a1 1 40).bind fun t455 => (if t455 = true then ((spec_l00In.f a2 0 20000).bind fun t456 => (spec_SmallestSide.j0 k a1 a2 (!t456) a0_0 l0_1)) else (spec_SmallestSide.j0 k a1 a2 true a0_0 l0_1))) else (some (0, 1)))) = some (r1, r2) := h
 clear h
 replace H := Option.bind_eq_some_iff.mp H
 obtain ⟨t454, A40, H⟩ := H
 replace H : (if t454 = true then ((spec_l00In.f a1 1 40).bind fun t455 => (if t455 = true then ((spec_l00In.f a2 0 20000).bind fun t456 => (spec_SmallestSide.j0 k a1 a2 (!t456) a0_0 l0_1)) else (spec_SmallestSide.j0 k a1 a2 true a0_0 l0_1))) else (some (0, 1))) = some (r1, r2) := H
 have A4 := Aside0.mk A40
 clear A40
 by_cases c5 : t454 = true
 ·subst c5
  have H1 : ((spec_l00In.f a1 1 40).bind fun t455 => (if t455 = true then ((spec_l00In.f a2 0 20000).bind fun t456 => (spec_SmallestSide.j0 k a1 a2 (!t456) a0_0 l0_1)) else (spec_SmallestSide.j0 k a1 a2 true a0_0 l0_1))) = some (r1, r2) := by rw [if_pos rfl] at H; exact H
  clear H
  have H := H1
  clear H1
  have HC6 := Aside0.mk H
  clear H
  go_enter Try.func14, Try.ntmps14
  go_upto_region 3 with (first | ((with_reducible refine gate_dst (N := 3) rfl ?_); refine box_event ?hg (N := 3) ?hd (cs := #[.int .i64 a0_0, .slice A0_1 l0_1.length c0_1]) (t := 26) ?hr ?_; (case hd => rfl); (case hg => rfl); (case hr => first | (go_simp; done) | (go_simp; rfl)); intro gb453 hg w7 hbox hb; have n0_ := Aside0.mk (below_step (bl0_ HB.out) hb); have n1_ := Aside0.mk (hbox); have n2_ := Aside0.mk ((by rw [hg]; exact (below_size (bl0_ HB.out)) : w.heap.size ≤ gb453)); have n3_ := Aside0.mk ((by rw [hg]; exact (below_size (bl0_ HB.out)) : w.heap.size ≤ gb453)); clear HB; have HB := n0_; have BK453 := n1_; have GW453 := n2_; have GE453 := n3_; clear n0_ n1_ n2_ n3_; clear hb hbox hg) | ((with_reducible refine gate_callee (f := 34) rfl ?_); refine goesL_ (some 12) rfl rfl Try.func34 (by kernel_rfl) rfl #[.pointer (some ⟨gb453, 0, none⟩)] rfl mp_ ?_; (with_reducible refine (spec_l30Ok.calls k gb453 a0_0 A0_1 c0_1 l0_1 true _ ?side1 ?side2 ?side3 A4.out).mono ?_); (case side1 => exact by (with_reducible repeat (first | refine blk_drewN ?_ _ | refine blk_drew ?_ | refine blk_alloc ?_ _)); exact BK453.out); (case side2 => exact ca_ (Kd.C_below HR0_1.out HB.out)); (case side3 => exact HC0_1.out); rintro e w8 ⟨rfl, hb⟩; refine ⟨_, rfl, ?_⟩; have n0_ := Aside0.mk (blk_below (g := gb453) (o := .cells #[.int .i64 a0_0, .slice A0_1 l0_1.length c0_1] 26 (0, 0)) (bk_ BK453.out) hb); have n1_ := Aside0.mk (below_step (bl1_ HB.out GE453.out) hb); clear BK453; clear HB; have BK453 := n0_; have HB := n1_; clear n0_ n1_; (try clear hb); (try clear hb2); (try clear hk); (try clear hi)))
  (try simp only [Act.put, List.setIfInBounds_toArray, List.set_cons_zero, List.set_cons_succ])
  go_cut [21] (fun v21 wc => ∃ (kq : Nat) (x21_5 : Bool), v21 = .bool x21_5 ∧ Aside0 (spec_SmallestSide.j0 kq a1 a2 x21_5 a0_0 l0_1 = some (r1, r2)) ∧ Aside0 (kq ≤ k) ∧ Aside0 (wc.heap[gb453]? = some (.cells #[.int .i64 a0_0, (.slice A0_1 l0_1.length c0_1)] 26 (0, 0))) ∧ Aside0 (Below w.heap.size w wc))
  case first =>
   have H := HC6.out
   clear HC6
   replace H := Option.bind_eq_some_iff.mp H
   obtain ⟨t455, A90, H⟩ := H
   replace H : (if t455 = true then ((spec_l00In.f a2 0 20000).bind fun t456 => (spec_SmallestSide.j0 k a1 a2 (!t456) a0_0 l0_1)) else (spec_SmallestSide.j0 k a1 a2 true a0_0 l0_1)) = some (r1, r2) := H
   have A9 := Aside0.mk A90
   clear A90
   by_cases c10 : t455 = true
   ·subst c10
    have H1 : ((spec_l00In.f a2 0 20000).bind fun t456 => (spec_SmallestSide.j0 k a1 a2 (!t456) a0_0 l0_1)) = some (r1, r2) := by rw [if_pos rfl] at H; exact H
    clear H
    have H := H1
    clear H1
    replace H := Option.bind_eq_some_iff.mp H
    obtain ⟨t456, A110, H⟩ := H
    replace H : (spec_SmallestSide.j0 k a1 a2 (!t456) a0_0 l0_1) = some (r1, r2) := H
    have A11 := Aside0.mk A110
    clear A110
    have H' := Aside0.mk H
    clear H
    go_wp2_with (first | ((with_reducible refine gate_callee (f := 35) rfl ?_); refine goesL_ (some 15) rfl rfl Try.func35 (by kernel_rfl) rfl #[.int .i64 a1, .int .i64 1, .int .i64 40] rfl mp_ ?_; (with_reducible refine (spec_l00In.calls a1 1 40 true _ A9.out).mono ?_); rintro e w' ⟨rfl, ⟨nd, rfl⟩⟩; refine ⟨_, rfl, ?_⟩) | (go_at_call 35; (with_reducible refine (spec_l00In.calls a2 0 20000 t456 _ A11.out).mono ?_); rintro e w' ⟨rfl, ⟨nd, rfl⟩⟩))
    go_meet
    case rel => exact ⟨_, (!t456), rs_, H', ⟨by first | omega | exact Nat.le_refl _⟩, ⟨bk_ BK453.out⟩, ⟨bl1_ HB.out GE453.out⟩⟩
   ·replace c10 := Bool.eq_false_iff.mpr c10
    subst c10
    have H1 : (spec_SmallestSide.j0 k a1 a2 true a0_0 l0_1) = some (r1, r2) := by rw [if_neg (show ¬ (false = true) by decide)] at H; exact H
    clear H
    have H := H1
    clear H1
    have H' := Aside0.mk H
    clear H
    go_wp2_with (first | ((with_reducible refine gate_callee (f := 35) rfl ?_); refine goesL_ (some 15) rfl rfl Try.func35 (by kernel_rfl) rfl #[.int .i64 a1, .int .i64 1, .int .i64 40] rfl mp_ ?_; (with_reducible refine (spec_l00In.calls a1 1 40 false _ A9.out).mono ?_); rintro e w' ⟨rfl, ⟨nd, rfl⟩⟩; refine ⟨_, rfl, ?_⟩))
    go_meet
    case rel => exact ⟨_, (true), rs_, H', ⟨by first | omega | exact Nat.le_refl _⟩, ⟨bk_ BK453.out⟩, ⟨bl1_ HB.out GE453.out⟩⟩
  case rest =>
   clear HC6
   try clear c1
   try clear p2
   try clear c3
   try clear c5
   try clear c10
   obtain ⟨kq, x21_5, rfl, HA, HJ5, BK453, HB⟩ := hcut
   cases kq with
   | zero => exact absurd HA.out (by simp [spec_SmallestSide.j0])
   | succ kj5 =>
    have H := HA.out
    clear HA
    simp only [spec_SmallestSide.j0] at H
    by_cases c12 : x21_5 = true
    ·subst c12
     have H1 : (some (0, 2)) = some (r1, r2) := by rw [if_pos rfl] at H; exact H
     clear H
     have H := H1
     clear H1
     simp only [Option.some.injEq, Prod.mk.injEq] at H
     obtain ⟨rfl, rfl⟩ := H
     go_wp2
     go_ret2
     exact ⟨re_, bl1_ HB.out GE453.out⟩
    ·replace c12 := Bool.eq_false_iff.mpr c12
     subst c12
     have H1 : (spec_SmallestSide.l0 kj5 a1 a2 1 a0_0 l0_1) = some (r1, r2) := by rw [if_neg (show ¬ (false = true) by decide)] at H; exact H
     clear H
     have H := H1
     clear H1
     have H' := Aside0.mk H
     clear H
     go_wp2
     go_loopg [8] kj5 (fun kq v8 w' => ∃ (x8_2 : Int), v8 = .int .i64 x8_2 ∧ Aside0 (spec_SmallestSide.l0 kq a1 a2 x8_2 a0_0 l0_1 = some (r1, r2)) ∧ Aside0 (kq ≤ kj5) ∧ Aside0 (w'.heap[gb453]? = some (.cells #[.int .i64 a0_0, (.slice A0_1 l0_1.length c0_1)] 26 (0, 0))) ∧ Aside0 (Below w.heap.size w w'))
     case atStart => exact ⟨(1), rs_, H', ⟨Nat.le_refl _⟩, ⟨bk_ BK453.out⟩, ⟨bl1_ HB.out GE453.out⟩⟩
     case round =>
      clear H'
      try clear c1
      try clear p2
      try clear c3
      try clear c5
      try clear c10
      try clear c12
      try clear p2
      obtain ⟨x8_2, rfl, HA, HK2, BK453, HB⟩ := hrel
      cases gk with
      | zero => exact absurd HA.out (by simp [spec_SmallestSide.l0])
      | succ k2 =>
       have H := HA.out
       clear HA
       simp only [spec_SmallestSide.l0] at H
       by_cases c13 : x8_2 ≤ a1
       ·rw [if_pos c13] at H
        have c13b0 := decide_eq_true c13
        clear c13
        replace H := Option.bind_eq_some_iff.mp H
        obtain ⟨⟨t457, t460, t461⟩, A140, H⟩ := H
        replace H : (if t461 = 0 then (some (x8_2, 0)) else (if t461 = 10 then (some (0, t461)) else (spec_SmallestSide.l0 k2 a1 a2 (wrap64 (x8_2 + 1)) a0_0 l0_1))) = some (r1, r2) := H
        have A14 := Aside0.mk A140
        clear A140
        by_cases c15 : t461 = 0
        ·rw [if_pos c15] at H
         have c15b0 : (t461 == 0) = true := beq_iff_eq.mpr c15
         have c15b1 : (t461 != 0) = false := bne_eq_false_iff_eq.mpr c15
         clear c15
         simp only [Option.some.injEq, Prod.mk.injEq] at H
         obtain ⟨rfl, rfl⟩ := H
         go_wp2_with (first | ((with_reducible refine gate_callee (f := 36) rfl ?_); refine goesL_ (some 30) rfl rfl Try.func36 (by kernel_rfl) rfl #[.pointer (some ⟨gb453, 0, none⟩), .int .i64 x8_2, .int .i64 a2] rfl mp_ ?_; (with_reducible refine (spec_l30First.calls k2 gb453 a0_0 A0_1 c0_1 l0_1 x8_2 a2 t457 t460 t461 _ ?side1 ?side2 ?side3 A14.out).mono ?_); (case side1 => exact by (with_reducible repeat (first | refine blk_drewN ?_ _ | refine blk_drew ?_ | refine blk_alloc ?_ _)); exact BK453.out); (case side2 => exact ca_ (Kd.C_below HR0_1.out HB.out)); (case side3 => exact HC0_1.out); rintro e w16 ⟨v458, rfl, ho0, hb⟩; refine ⟨_, rfl, ?_⟩; have n0_ := Aside0.mk (Kd.R_lower ho0 (below_size (bl1_ HB.out GE453.out))); have n1_ := Aside0.mk (blk_below (g := gb453) (o := .cells #[.int .i64 a0_0, .slice A0_1 l0_1.length c0_1] 26 (0, 0)) (bk_ BK453.out) hb); have n2_ := Aside0.mk (below_step (bl1_ HB.out GE453.out) hb); clear BK453; clear HB; have HO459 := n0_; have BK453 := n1_; have HB := n2_; clear n0_ n1_ n2_; (try clear hb); (try clear hb2); (try clear hk); (try clear hi); (try clear ho0)))
         go_ret2
         exact ⟨re_, bl1_ HB.out GE453.out⟩
        ·rw [if_neg c15] at H
         have c15b0 : (t461 == 0) = false := beq_eq_false_iff_ne.mpr c15
         have c15b1 : (t461 != 0) = true := bne_iff_ne.mpr c15
         by_cases c17 : t461 = 10
         ·rw [if_pos c17] at H
          have c17b0 : (t461 == 10) = true := beq_iff_eq.mpr c17
          have c17b1 : (t461 != 10) = false := bne_eq_false_iff_eq.mpr c17
          clear c17
          simp only [Option.some.injEq, Prod.mk.injEq] at H
          obtain ⟨rfl, rfl⟩ := H
          go_wp2_with (first | ((with_reducible refine gate_callee (f := 36) rfl ?_); refine goesL_ (some 30) rfl rfl Try.func36 (by kernel_rfl) rfl #[.pointer (some ⟨gb453, 0, none⟩), .int .i64 x8_2, .int .i64 a2] rfl mp_ ?_; (with_reducible refine (spec_l30First.calls k2 gb453 a0_0 A0_1 c0_1 l0_1 x8_2 a2 t457 t460 t461 _ ?side1 ?side2 ?side3 A14.out).mono ?_); (case side1 => exact by (with_reducible repeat (first | refine blk_drewN ?_ _ | refine blk_drew ?_ | refine blk_alloc ?_ _)); exact BK453.out); (case side2 => exact ca_ (Kd.C_below HR0_1.out HB.out)); (case side3 => exact HC0_1.out); rintro e w18 ⟨v458, rfl, ho0, hb⟩; refine ⟨_, rfl, ?_⟩; have n0_ := Aside0.mk (Kd.R_lower ho0 (below_size (bl1_ HB.out GE453.out))); have n1_ := Aside0.mk (blk_below (g := gb453) (o := .cells #[.int .i64 a0_0, .slice A0_1 l0_1.length c0_1] 26 (0, 0)) (bk_ BK453.out) hb); have n2_ := Aside0.mk (below_step (bl1_ HB.out GE453.out) hb); clear BK453; clear HB; have HO459 := n0_; have BK453 := n1_; have HB := n2_; clear n0_ n1_ n2_; (try clear hb); (try clear hb2); (try clear hk); (try clear hi); (try clear ho0)))
          go_ret2
          exact ⟨re_, bl1_ HB.out GE453.out⟩
         ·rw [if_neg c17] at H
          have c17b0 : (t461 == 10) = false := beq_eq_false_iff_ne.mpr c17
          have c17b1 : (t461 != 10) = true := bne_iff_ne.mpr c17
          have H' := Aside0.mk H
          clear H
          go_wp2_with (first | ((with_reducible refine gate_callee (f := 36) rfl ?_); refine goesL_ (some 30) rfl rfl Try.func36 (by kernel_rfl) rfl #[.pointer (some ⟨gb453, 0, none⟩), .int .i64 x8_2, .int .i64 a2] rfl mp_ ?_; (with_reducible refine (spec_l30First.calls k2 gb453 a0_0 A0_1 c0_1 l0_1 x8_2 a2 t457 t460 t461 _ ?side1 ?side2 ?side3 A14.out).mono ?_); (case side1 => exact by (with_reducible repeat (first | refine blk_drewN ?_ _ | refine blk_drew ?_ | refine blk_alloc ?_ _)); exact BK453.out); (case side2 => exact ca_ (Kd.C_below HR0_1.out HB.out)); (case side3 => exact HC0_1.out); rintro e w19 ⟨v458, rfl, ho0, hb⟩; refine ⟨_, rfl, ?_⟩; have n0_ := Aside0.mk (Kd.R_lower ho0 (below_size (bl1_ HB.out GE453.out))); have n1_ := Aside0.mk (blk_below (g := gb453) (o := .cells #[.int .i64 a0_0, .slice A0_1 l0_1.length c0_1] 26 (0, 0)) (bk_ BK453.out) hb); have n2_ := Aside0.mk (below_step (bl1_ HB.out GE453.out) hb); clear BK453; clear HB; have HO459 := n0_; have BK453 := n1_; have HB := n2_; clear n0_ n1_ n2_; (try clear hb); (try clear hb2); (try clear hk); (try clear hi); (try clear ho0)))
          go_roundg k2
          case measure => have := HJ5.out; have := HK2.out; omega
          case rel => exact ⟨(wrap64 (x8_2 + 1)), rs_, H', ⟨by have := HJ5.out; have := HK2.out; omega⟩, ⟨bk_ BK453.out⟩, ⟨bl1_ HB.out GE453.out⟩⟩
       ·rw [if_neg c13] at H
        have c13b0 := decide_eq_false c13
        clear c13
        simp only [Option.some.injEq, Prod.mk.injEq] at H
        obtain ⟨rfl, rfl⟩ := H
        go_wp2
        go_ret2
        exact ⟨re_, bl1_ HB.out GE453.out⟩
 ·replace c5 := Bool.eq_false_iff.mpr c5
  subst c5
  have H1 : (some (0, 1)) = some (r1, r2) := by rw [if_neg (show ¬ (false = true) by decide)] at H; exact H
  clear H
  have H := H1
  clear H1
  simp only [Option.some.injEq, Prod.mk.injEq] at H
  obtain ⟨rfl, rfl⟩ := H
  go_enter Try.func14, Try.ntmps14
  go_wp2_with (first | ((with_reducible refine gate_dst (N := 3) rfl ?_); refine box_event ?hg (N := 3) ?hd (cs := #[.int .i64 a0_0, .slice A0_1 l0_1.length c0_1]) (t := 26) ?hr ?_; (case hd => rfl); (case hg => rfl); (case hr => first | (go_simp; done) | (go_simp; rfl)); intro gb453 hg w20 hbox hb; have n0_ := Aside0.mk (below_step (bl0_ HB.out) hb); have n1_ := Aside0.mk (hbox); have n2_ := Aside0.mk ((by rw [hg]; exact (below_size (bl0_ HB.out)) : w.heap.size ≤ gb453)); have n3_ := Aside0.mk ((by rw [hg]; exact (below_size (bl0_ HB.out)) : w.heap.size ≤ gb453)); clear HB; have HB := n0_; have BK453 := n1_; have GW453 := n2_; have GE453 := n3_; clear n0_ n1_ n2_ n3_; clear hb hbox hg) | ((with_reducible refine gate_callee (f := 34) rfl ?_); refine goesL_ (some 12) rfl rfl Try.func34 (by kernel_rfl) rfl #[.pointer (some ⟨gb453, 0, none⟩)] rfl mp_ ?_; (with_reducible refine (spec_l30Ok.calls k gb453 a0_0 A0_1 c0_1 l0_1 false _ ?side1 ?side2 ?side3 A4.out).mono ?_); (case side1 => exact by (with_reducible repeat (first | refine blk_drewN ?_ _ | refine blk_drew ?_ | refine blk_alloc ?_ _)); exact BK453.out); (case side2 => exact ca_ (Kd.C_below HR0_1.out HB.out)); (case side3 => exact HC0_1.out); rintro e w21 ⟨rfl, hb⟩; refine ⟨_, rfl, ?_⟩; have n0_ := Aside0.mk (blk_below (g := gb453) (o := .cells #[.int .i64 a0_0, .slice A0_1 l0_1.length c0_1] 26 (0, 0)) (bk_ BK453.out) hb); have n1_ := Aside0.mk (below_step (bl1_ HB.out GE453.out) hb); clear BK453; clear HB; have BK453 := n0_; have HB := n1_; clear n0_ n1_; (try clear hb); (try clear hb2); (try clear hk); (try clear hi)))
  go_ret2
  exact ⟨re_, bl1_ HB.out GE453.out⟩

/-! ### laws_FnExactSmallestSide: function 4 -/
def laws_FnExactSmallestSide.j0 : Nat → Bool → Int → List (S96) → Int → List (S75) → Option (Bool)
 | 0, _, _, _, _, _ => none
 | k + 1, x42, x463000, x463001, x475000, x475001 => if x42 = true then (some false) else ((laws_toTree.f k x463000 x463001).bind fun bt477 => ((laws_eqTree.f k x475000 x475001 bt477.1 bt477.2).bind fun t481 => (if t481 = true then (some true) else (some false))))
def laws_FnExactSmallestSide.f (k : Nat) (a0_0 : Int) (l0_1 : List (S96)) (a1 : Int) (a2 : Int) : Option (Bool) := (laws_szTree.f a0_0 l0_1 1048576).bind fun t463 => (if t463 < 0 then (some true) else ((laws_toTree.f k a0_0 l0_1).bind fun bt464 => ((spec_SmallestSide.f k bt464.1 bt464.2 a1 a2).bind fun bt468 => ((laws_toTree.f k a0_0 l0_1).bind fun bt470 => ((impl_SmallestSide.f k bt470.1 bt470.2 a1 a2).bind fun bt475 => (if bt475.1 = bt468.1 then (laws_FnExactSmallestSide.j0 k (bt475.2 != bt468.2) a0_0 l0_1 bt470.1 bt470.2) else (laws_FnExactSmallestSide.j0 k true a0_0 l0_1 bt470.1 bt470.2)))))))
theorem laws_FnExactSmallestSide.mono_l : ∀ k, (∀ y0 y1 y2 y3 y4, LeO (laws_FnExactSmallestSide.j0 k y0 y1 y2 y3 y4) (laws_FnExactSmallestSide.j0 (k + 1) y0 y1 y2 y3 y4))
 | 0 => fun _ _ _ _ _ r h => by simp [laws_FnExactSmallestSide.j0] at h
 | k + 1 => by
  have ih0 := laws_FnExactSmallestSide.mono_l k
  ·intro y0 y1 y2 y3 y4
   unfold laws_FnExactSmallestSide.j0
   repeat' first
   | (with_reducible exact ih0 _ _ _ _ _)
   | (with_reducible exact impl_SmallestSide.mono _ _ _ _ _)
   | (with_reducible exact laws_eqTree.mono _ _ _ _ _)
   | (with_reducible exact laws_toTree.mono _ _ _)
   | (with_reducible exact spec_SmallestSide.mono _ _ _ _ _)
   | (with_reducible exact LeO.refl _)
   | (with_reducible exact LeO.none _)
   | (with_reducible refine LeO.ite ?_ ?_)
   | (with_reducible refine LeO.bind ?_ (fun _ => ?_))
   | exact impl_SmallestSide.mono _ _ _ _ _
   | exact laws_eqTree.mono _ _ _ _ _
   | exact laws_toTree.mono _ _ _
   | exact spec_SmallestSide.mono _ _ _ _ _
   | exact LeO.none _
   | refine LeO.ite ?_ ?_
   | refine LeO.bind ?_ (fun _ => ?_)
theorem laws_FnExactSmallestSide.mono : ∀ a0 a1 a2 a3 k, LeO (laws_FnExactSmallestSide.f k a0 a1 a2 a3) (laws_FnExactSmallestSide.f (k + 1) a0 a1 a2 a3) := by
 intro a0 a1 a2 a3 k
 have ih0 := laws_FnExactSmallestSide.mono_l k
 unfold laws_FnExactSmallestSide.f
 repeat' first
   | (with_reducible exact ih0 _ _ _ _ _)
   | (with_reducible exact impl_SmallestSide.mono _ _ _ _ _)
   | (with_reducible exact laws_eqTree.mono _ _ _ _ _)
   | (with_reducible exact laws_toTree.mono _ _ _)
   | (with_reducible exact spec_SmallestSide.mono _ _ _ _ _)
   | (with_reducible exact LeO.refl _)
   | (with_reducible exact LeO.none _)
   | (with_reducible refine LeO.ite ?_ ?_)
   | (with_reducible refine LeO.bind ?_ (fun _ => ?_))
   | exact impl_SmallestSide.mono _ _ _ _ _
   | exact laws_eqTree.mono _ _ _ _ _
   | exact laws_toTree.mono _ _ _
   | exact spec_SmallestSide.mono _ _ _ _ _
   | exact LeO.none _
   | refine LeO.ite ?_ ?_
   | refine LeO.bind ?_ (fun _ => ?_)
set_option maxHeartbeats 8000000 in
set_option maxRecDepth 100000 in
theorem laws_FnExactSmallestSide.calls (k : Nat) (a0_0 : Int) (A0_1 : Option Addr) (c0_1 : Nat) (l0_1 : List (S96)) (a1 : Int) (a2 : Int) (r : Bool) (w : World) (hr0_1 : Kd.C k96 w A0_1 l0_1.length l0_1) (hc0_1 : l0_1.length ≤ c0_1) (h : laws_FnExactSmallestSide.f k a0_0 l0_1 a1 a2 = some r) :
  Calls Try.prog 4 #[.agg #[.int .i64 a0_0, .slice A0_1 l0_1.length c0_1], .int .i64 a1, .int .i64 a2] w fun e w' => e = .returned (.bool r) ∧ Below w.heap.size w w' := by
 have hu42 := Try.underlying42
 have hu26 := Try.underlying26
 have HR0_1 := Aside0.mk hr0_1
 have HC0_1 := Aside0.mk hc0_1
 clear hr0_1 hc0_1
 have HB := Aside0.mk (Below.refl w.heap.size w)
 have H : ((laws_szTree.f a0_0 l0_1 1048576).bind fun t463 => (if t463 < 0 then (some true) else ((laws_toTree.f k a0_0 l0_1).bind fun bt464 => ((spec_SmallestSide.f k bt464.1 bt464.2 a1 a2).bind fun bt468 => ((laws_toTree.f k a0_0 l0_1).bind fun bt470 => ((impl_SmallestSide.f k bt470.1 bt470.2 a1 a2).bind fun bt475 => (if bt475.1 = bt468.1 then (laws_FnExactSmallestSide.j0 k (bt475.2 != bt468.2) a0_0 l0_1 bt470.1 bt470.2) else (laws_FnExactSmallestSide.j0 k true a0_0 l0_1 bt470.1 bt470.2)))))))) = some r := h
 clear h
 replace H := Option.bind_eq_some_iff.mp H
 obtain ⟨t463, A40, H⟩ := H
 replace H : (if t463 < 0 then (some true) else ((laws_toTree.f k a0_0 l0_1).bind fun bt464 => ((spec_SmallestSide.f k bt464.1 bt464.2 a1 a2).bind fun bt468 => ((laws_toTree.f k a0_0 l0_1).bind fun bt470 => ((impl_SmallestSide.f k bt470.1 bt470.2 a1 a2).bind fun bt475 => (if bt475.1 = bt468.1 then (laws_FnExactSmallestSide.j0 k (bt475.2 != bt468.2) a0_0 l0_1 bt470.1 bt470.2) else (laws_FnExactSmallestSide.j0 k true a0_0 l0_1 bt470.1 bt470.2))))))) = some r := H
 have A4 := Aside0.mk A40
 clear A40
 by_cases c5 : t463 < 0
 ·rw [if_pos c5] at H
  have c5b0 := decide_eq_true c5
  clear c5
  obtain rfl := Option.some.inj H
  go_enter Try.func4, Try.ntmps4
  go_wp2_with (first | ((with_reducible refine gate_dst (N := 3) rfl ?_); refine box_event ?hg (N := 3) ?hd (cs := #[.int .i64 a0_0, .slice A0_1 l0_1.length c0_1]) (t := 42) ?hr ?_; (case hd => rfl); (case hg => rfl); (case hr => first | (go_simp; done) | (go_simp; rfl)); intro gb462 hg w6 hbox hb; have n0_ := Aside0.mk (below_step (bl0_ HB.out) hb); have n1_ := Aside0.mk (hbox); have n2_ := Aside0.mk ((by rw [hg]; exact (below_size (bl0_ HB.out)) : w.heap.size ≤ gb462)); have n3_ := Aside0.mk ((by rw [hg]; exact (below_size (bl0_ HB.out)) : w.heap.size ≤ gb462)); clear HB; have HB := n0_; have BK462 := n1_; have GW462 := n2_; have GE462 := n3_; clear n0_ n1_ n2_ n3_; clear hb hbox hg; obtain ⟨hcz7_0, hcz7_1, hfz7_0, hfz7_1⟩ := cz2_ BK462.out) | ((with_reducible refine gate_callee (f := 13) rfl ?_); refine goesL_ (some 15) rfl rfl Try.func13 (by kernel_rfl) rfl #[.agg #[.int .i64 a0_0, .slice A0_1 l0_1.length c0_1], .int .i64 1048576] rfl mp_ ?_; (with_reducible refine (laws_szTree.calls a0_0 _ _ l0_1 1048576 t463 _ ?side1 ?side2 A4.out).mono ?_); (case side1 => exact ca_ (Kd.C_below HR0_1.out HB.out)); (case side2 => exact HC0_1.out); rintro e w8 ⟨rfl, hb⟩; refine ⟨_, rfl, ?_⟩; have n0_ := Aside0.mk (blk_below (g := gb462) (o := .cells #[.int .i64 a0_0, .slice A0_1 l0_1.length c0_1] 42 (0, 0)) (bk_ BK462.out) hb); have n1_ := Aside0.mk (below_step (bl1_ HB.out GE462.out) hb); clear BK462; clear HB; have BK462 := n0_; have HB := n1_; clear n0_ n1_; (try clear hb); (try clear hb2); (try clear hk); (try clear hi)))
  go_ret
  exact ⟨re_, bl1_ HB.out GE462.out⟩
 ·rw [if_neg c5] at H
  have c5b0 := decide_eq_false c5
  clear c5
  replace H := Option.bind_eq_some_iff.mp H
  obtain ⟨⟨t464, t465⟩, A90, H⟩ := H
  replace H : ((spec_SmallestSide.f k t464 t465 a1 a2).bind fun bt468 => ((laws_toTree.f k a0_0 l0_1).bind fun bt470 => ((impl_SmallestSide.f k bt470.1 bt470.2 a1 a2).bind fun bt475 => (if bt475.1 = bt468.1 then (laws_FnExactSmallestSide.j0 k (bt475.2 != bt468.2) a0_0 l0_1 bt470.1 bt470.2) else (laws_FnExactSmallestSide.j0 k true a0_0 l0_1 bt470.1 bt470.2))))) = some r := H
  have A9 := Aside0.mk A90
  clear A90
  replace H := Option.bind_eq_some_iff.mp H
  obtain ⟨⟨t468, t469⟩, A100, H⟩ := H
  replace H : ((laws_toTree.f k a0_0 l0_1).bind fun bt470 => ((impl_SmallestSide.f k bt470.1 bt470.2 a1 a2).bind fun bt475 => (if bt475.1 = t468 then (laws_FnExactSmallestSide.j0 k (bt475.2 != t469) a0_0 l0_1 bt470.1 bt470.2) else (laws_FnExactSmallestSide.j0 k true a0_0 l0_1 bt470.1 bt470.2)))) = some r := H
  have A10 := Aside0.mk A100
  clear A100
  replace H := Option.bind_eq_some_iff.mp H
  obtain ⟨⟨t470, t471⟩, A110, H⟩ := H
  replace H : ((impl_SmallestSide.f k t470 t471 a1 a2).bind fun bt475 => (if bt475.1 = t468 then (laws_FnExactSmallestSide.j0 k (bt475.2 != t469) a0_0 l0_1 t470 t471) else (laws_FnExactSmallestSide.j0 k true a0_0 l0_1 t470 t471))) = some r := H
  have A11 := Aside0.mk A110
  clear A110
  replace H := Option.bind_eq_some_iff.mp H
  obtain ⟨⟨t475, t476⟩, A120, H⟩ := H
  replace H : (if t475 = t468 then (laws_FnExactSmallestSide.j0 k (t476 != t469) a0_0 l0_1 t470 t471) else (laws_FnExactSmallestSide.j0 k true a0_0 l0_1 t470 t471)) = some r := H
  have A12 := Aside0.mk A120
  clear A120
  have HC13 := Aside0.mk H
  clear H
  go_enter Try.func4, Try.ntmps4
  go_upto_region 8 with (first | ((with_reducible refine gate_dst (N := 3) rfl ?_); refine box_event ?hg (N := 3) ?hd (cs := #[.int .i64 a0_0, .slice A0_1 l0_1.length c0_1]) (t := 42) ?hr ?_; (case hd => rfl); (case hg => rfl); (case hr => first | (go_simp; done) | (go_simp; rfl)); intro gb462 hg w14 hbox hb; have n0_ := Aside0.mk (below_step (bl0_ HB.out) hb); have n1_ := Aside0.mk (hbox); have n2_ := Aside0.mk ((by rw [hg]; exact (below_size (bl0_ HB.out)) : w.heap.size ≤ gb462)); have n3_ := Aside0.mk ((by rw [hg]; exact (below_size (bl0_ HB.out)) : w.heap.size ≤ gb462)); clear HB; have HB := n0_; have BK462 := n1_; have GW462 := n2_; have GE462 := n3_; clear n0_ n1_ n2_ n3_; clear hb hbox hg; obtain ⟨hcz15_0, hcz15_1, hfz15_0, hfz15_1⟩ := cz2_ BK462.out) | ((with_reducible refine gate_callee (f := 13) rfl ?_); refine goesL_ (some 15) rfl rfl Try.func13 (by kernel_rfl) rfl #[.agg #[.int .i64 a0_0, .slice A0_1 l0_1.length c0_1], .int .i64 1048576] rfl mp_ ?_; (with_reducible refine (laws_szTree.calls a0_0 _ _ l0_1 1048576 t463 _ ?side1 ?side2 A4.out).mono ?_); (case side1 => exact ca_ (Kd.C_below HR0_1.out HB.out)); (case side2 => exact HC0_1.out); rintro e w16 ⟨rfl, hb⟩; refine ⟨_, rfl, ?_⟩; have n0_ := Aside0.mk (blk_below (g := gb462) (o := .cells #[.int .i64 a0_0, .slice A0_1 l0_1.length c0_1] 42 (0, 0)) (bk_ BK462.out) hb); have n1_ := Aside0.mk (below_step (bl1_ HB.out GE462.out) hb); clear BK462; clear HB; have BK462 := n0_; have HB := n1_; clear n0_ n1_; (try clear hb); (try clear hb2); (try clear hk); (try clear hi); obtain ⟨hcz17_0, hcz17_1, hfz17_0, hfz17_1⟩ := cz2_ BK462.out) | ((with_reducible refine gate_callee (f := 15) rfl ?_); refine goesL_ (some 20) rfl rfl Try.func15 (by kernel_rfl) rfl #[.agg #[.int .i64 a0_0, .slice A0_1 l0_1.length c0_1]] rfl mp_ ?_; (with_reducible refine (laws_toTree.calls k a0_0 _ _ l0_1 t464 t465 _ ?side1 ?side2 A9.out).mono ?_); (case side1 => exact ca_ (Kd.C_below HR0_1.out HB.out)); (case side2 => exact HC0_1.out); rintro e w18 ⟨v466, rfl, ho0, hb⟩; refine ⟨_, rfl, ?_⟩; have n0_ := Aside0.mk (Kd.R_lower ho0 (below_size (bl1_ HB.out GE462.out))); have n1_ := Aside0.mk (blk_below (g := gb462) (o := .cells #[.int .i64 a0_0, .slice A0_1 l0_1.length c0_1] 42 (0, 0)) (bk_ BK462.out) hb); have n2_ := Aside0.mk (below_step (bl1_ HB.out GE462.out) hb); clear BK462; clear HB; have HO467 := n0_; have BK462 := n1_; have HB := n2_; clear n0_ n1_ n2_; (try clear hb); (try clear hb2); (try clear hk); (try clear hi); (try clear ho0); obtain ⟨Ao19, co19, eo19⟩ := Kd.R_slice HO467.out; subst eo19) | ((with_reducible refine gate_callee (f := 14) rfl ?_); refine goesL_ (some 23) rfl rfl Try.func14 (by kernel_rfl) rfl #[.agg #[.int .i64 t464, .slice Ao19 t465.length co19], .int .i64 a1, .int .i64 a2] rfl mp_ ?_; (with_reducible refine (spec_SmallestSide.calls k t464 _ _ t465 a1 a2 t468 t469 _ ?side1 ?side2 A10.out).mono ?_); (case side1 => exact ca_ (Kd.R_reads' HO467.out).2.2); (case side2 => exact (Kd.R_reads' HO467.out).2.1); rintro e w20 ⟨rfl, hb⟩; refine ⟨_, rfl, ?_⟩; have n0_ := Aside0.mk (Kd.R_below (ra_ HO467.out) hb); have n1_ := Aside0.mk (blk_below (g := gb462) (o := .cells #[.int .i64 a0_0, .slice A0_1 l0_1.length c0_1] 42 (0, 0)) (bk_ BK462.out) hb); have n2_ := Aside0.mk (below_step (bl1_ HB.out GE462.out) hb); clear HO467; clear BK462; clear HB; have HO467 := n0_; have BK462 := n1_; have HB := n2_; clear n0_ n1_ n2_; (try clear hb); (try clear hb2); (try clear hk); (try clear hi); obtain ⟨hcz21_0, hcz21_1, hfz21_0, hfz21_1⟩ := cz2_ BK462.out) | ((with_reducible refine gate_callee (f := 15) rfl ?_); refine goesL_ (some 27) rfl rfl Try.func15 (by kernel_rfl) rfl #[.agg #[.int .i64 a0_0, .slice A0_1 l0_1.length c0_1]] rfl mp_ ?_; (with_reducible refine (laws_toTree.calls k a0_0 _ _ l0_1 t470 t471 _ ?side1 ?side2 A11.out).mono ?_); (case side1 => exact ca_ (Kd.C_below HR0_1.out HB.out)); (case side2 => exact HC0_1.out); rintro e w22 ⟨v472, rfl, ho0, hb⟩; refine ⟨_, rfl, ?_⟩; have n0_ := Aside0.mk (Kd.R_elder' (ra_ HO467.out) (Kd.R_base ho0) hb); have n1_ := Aside0.mk (Kd.R_lower (Kd.R_new' ho0 (Kd.R_lt (ra_ HO467.out))) (below_size (bl1_ HB.out GE462.out))); have n2_ := Aside0.mk (blk_below (g := gb462) (o := .cells #[.int .i64 a0_0, .slice A0_1 l0_1.length c0_1] 42 (0, 0)) (bk_ BK462.out) hb); have n3_ := Aside0.mk (below_step (bl1_ HB.out GE462.out) hb); clear HO467; clear BK462; clear HB; have HO467 := n0_; have HO473 := n1_; have BK462 := n2_; have HB := n3_; clear n0_ n1_ n2_ n3_; (try clear hb); (try clear hb2); (try clear hk); (try clear hi); (try clear ho0)) | ((with_reducible refine gate_dst (N := 10) rfl ?_); refine box_event ?hg (N := 10) ?hd (cs := #[.int .i64 0, .slice none 0 0]) (t := 26) ?hr ?_; (case hd => rfl); (case hg => rfl); (case hr => first | (go_simp; done) | (go_simp; rfl)); intro gb474 hg w23 hbox hb; have n0_ := Aside0.mk (Kd.R_below (ra_ HO467.out) hb); have n1_ := Aside0.mk (Kd.R_below (ra_ HO473.out) hb); have n2_ := Aside0.mk (blk_below (g := gb462) (o := .cells #[.int .i64 a0_0, .slice A0_1 l0_1.length c0_1] 42 (0, 0)) (bk_ BK462.out) hb); have n3_ := Aside0.mk (below_step (bl1_ HB.out GE462.out) hb); have n4_ := Aside0.mk (hbox); have n5_ := Aside0.mk ((by rw [hg]; exact (below_size (bl1_ HB.out GE462.out)) : w.heap.size ≤ gb474)); have n6_ := Aside0.mk ((by rw [hg]; exact (below_size (bl1_ HB.out GE462.out)) : w.heap.size ≤ gb474)); have n7_ := Aside0.mk ((by rw [hg]; exact Nat.ne_of_lt (blk_lt (bk_ BK462.out)) : gb462 ≠ gb474)); have n8_ := Aside0.mk ((by rw [hg]; exact Nat.ne_of_gt (blk_lt (bk_ BK462.out)) : gb474 ≠ gb462)); clear HO467; clear HO473; clear BK462; clear HB; have HO467 := n0_; have HO473 := n1_; have BK462 := n2_; have HB := n3_; have BK474 := n4_; have GW474 := n5_; have GE474 := n6_; have NB462_474 := n7_; have NB474_462 := n8_; clear n0_ n1_ n2_ n3_ n4_ n5_ n6_ n7_ n8_; clear hb hbox hg; have hnb24 := NB474_462.out; have hnc24 := NB462_474.out; obtain ⟨hcz25_0, hcz25_1, hfz25_0, hfz25_1⟩ := cz2_ BK474.out; obtain ⟨Ao26, co26, eo26⟩ := Kd.R_slice HO473.out; subst eo26) | ((with_reducible refine gate_callee (f := 12) rfl ?_); refine goesL_ (some 32) rfl rfl Try.func12 (by kernel_rfl) rfl #[.agg #[.int .i64 t470, .slice Ao26 t471.length co26], .int .i64 a1, .int .i64 a2] rfl mp_ ?_; (with_reducible refine (impl_SmallestSide.calls k t470 _ _ t471 a1 a2 t475 t476 _ ?side1 ?side2 A12.out).mono ?_); (case side1 => refine (Kd.R_reads' (e := 75) (base := w.heap.size) (ok := fun k_ => (True ∧ some k_ ≠ (.slice Ao19 t465.length co19 : Value).ownBlock)) (n := t471.length) (c := co26) ?_).2.2; exact (by (with_reducible repeat (first | apply Kd.R_alloc | apply Kd.R_drewN | apply Kd.R_drew)); exact (Kd.R_mono (Kd.R_far (p := ⟨gb474, 1, none⟩) (Kd.R_far (p := ⟨gb474, 0, none⟩) (Kd.R_types HO473.out BK474.out (by decide)) (fun _ hk => hk.2) (.int .i64 t470)) (fun _ hk => hk.2) (.slice Ao26 t471.length co26)) (fun _ h_ => h_.1)))); (case side2 => exact (Kd.R_reads' HO473.out).2.1); rintro e w27 ⟨rfl, hb⟩; refine ⟨_, rfl, ?_⟩; have n0_ := Aside0.mk (Kd.R_below (by (with_reducible repeat (first | apply Kd.R_alloc | apply Kd.R_drewN | apply Kd.R_drew)); exact (Kd.R_mono (Kd.R_far (p := ⟨gb474, 1, none⟩) (Kd.R_far (p := ⟨gb474, 0, none⟩) (Kd.R_types HO467.out BK474.out (by decide)) (fun _ hk => hk.2) (.int .i64 t470)) (fun _ hk => hk.2) (.slice Ao26 t471.length co26)) (fun _ h_ => h_.1))) hb); have n1_ := Aside0.mk (Kd.R_below (by (with_reducible repeat (first | apply Kd.R_alloc | apply Kd.R_drewN | apply Kd.R_drew)); exact (Kd.R_mono (Kd.R_far (p := ⟨gb474, 1, none⟩) (Kd.R_far (p := ⟨gb474, 0, none⟩) (Kd.R_types HO473.out BK474.out (by decide)) (fun _ hk => hk.2) (.int .i64 t470)) (fun _ hk => hk.2) (.slice Ao26 t471.length co26)) (fun _ h_ => h_.1))) hb); have n2_ := Aside0.mk (blk_below (g := gb462) (o := .cells #[.int .i64 a0_0, .slice A0_1 l0_1.length c0_1] 42 (0, 0)) (by (with_reducible repeat (first | refine blk_drewN ?_ _ | refine blk_drew ?_ | refine blk_alloc ?_ _)); refine blk_far ?_ NB462_474.out _; (with_reducible repeat (first | refine blk_drewN ?_ _ | refine blk_drew ?_ | refine blk_alloc ?_ _)); refine blk_far ?_ NB462_474.out _; (with_reducible repeat (first | refine blk_drewN ?_ _ | refine blk_drew ?_ | refine blk_alloc ?_ _)); exact BK462.out) hb); have n3_ := Aside0.mk (blk_below (g := gb474) (o := .cells #[.int .i64 t470, .slice Ao26 t471.length co26] 26 (0, 0)) (by (with_reducible repeat (first | refine blk_drewN ?_ _ | refine blk_drew ?_ | refine blk_alloc ?_ _)); refine blk_put (cs := #[.int .i64 t470, .slice none 0 0]) ?_ 1 _ rfl; (with_reducible repeat (first | refine blk_drewN ?_ _ | refine blk_drew ?_ | refine blk_alloc ?_ _)); refine blk_put (cs := #[.int .i64 0, .slice none 0 0]) ?_ 0 _ rfl; (with_reducible repeat (first | refine blk_drewN ?_ _ | refine blk_drew ?_ | refine blk_alloc ?_ _)); exact BK474.out) hb); have n4_ := Aside0.mk (below_step (bl2_ HB.out GE462.out GE474.out) hb); clear HO467; clear HO473; clear BK462; clear BK474; clear HB; have HO467 := n0_; have HO473 := n1_; have BK462 := n2_; have BK474 := n3_; have HB := n4_; clear n0_ n1_ n2_ n3_ n4_; (try clear hb); (try clear hb2); (try clear hk); (try clear hi)))
  (try simp only [Act.put, List.setIfInBounds_toArray, List.set_cons_zero, List.set_cons_succ])
  go_cut [42] (fun v42 wc => ∃ (kq : Nat) (x42_12 : Bool), v42 = .bool x42_12 ∧ Aside0 (laws_FnExactSmallestSide.j0 kq x42_12 a0_0 l0_1 t470 t471 = some r) ∧ Aside0 (kq ≤ k) ∧ Aside0 (Kd.R k75 75 wc w.heap.size (fun _ => True) (.slice Ao26 t471.length co26) t471) ∧ Aside0 (wc.heap[gb462]? = some (.cells #[.int .i64 a0_0, (.slice A0_1 l0_1.length c0_1)] 42 (0, 0))) ∧ Aside0 (wc.heap[gb474]? = some (.cells #[.int .i64 t470, (.slice Ao26 t471.length co26)] 26 (0, 0))) ∧ Aside0 (Below w.heap.size w wc))
  case first =>
   have H := HC13.out
   clear HC13
   by_cases c28 : t475 = t468
   ·rw [if_pos c28] at H
    have c28b0 : (t475 == t468) = true := beq_iff_eq.mpr c28
    have c28b1 : (t475 != t468) = false := bne_eq_false_iff_eq.mpr c28
    clear c28
    (first | rw [c28b0] | (simp only [i64_w, i32_w]; rw [c28b0]) | skip)
    have H' := Aside0.mk H
    clear H
    go_wp2
    go_meet
    case rel => exact ⟨_, ((t476 != t469)), rs_, H', ⟨by first | omega | exact Nat.le_refl _⟩, ⟨by (with_reducible repeat (first | apply Kd.R_alloc | apply Kd.R_drewN | apply Kd.R_drew)); exact Kd.R_mono HO473.out (fun _ hk => trivial)⟩, ⟨bk_ BK462.out⟩, ⟨bk_ BK474.out⟩, ⟨bl2_ HB.out GE462.out GE474.out⟩⟩
   ·rw [if_neg c28] at H
    have c28b0 : (t475 == t468) = false := beq_eq_false_iff_ne.mpr c28
    have c28b1 : (t475 != t468) = true := bne_iff_ne.mpr c28
    (first | rw [c28b0] | (simp only [i64_w, i32_w]; rw [c28b0]) | skip)
    have H' := Aside0.mk H
    clear H
    go_wp2
    go_meet
    case rel => exact ⟨_, (true), rs_, H', ⟨by first | omega | exact Nat.le_refl _⟩, ⟨by (with_reducible repeat (first | apply Kd.R_alloc | apply Kd.R_drewN | apply Kd.R_drew)); exact Kd.R_mono HO473.out (fun _ hk => trivial)⟩, ⟨bk_ BK462.out⟩, ⟨bk_ BK474.out⟩, ⟨bl2_ HB.out GE462.out GE474.out⟩⟩
  case rest =>
   clear HC13
   try clear c1
   try clear c2
   try clear p2
   try clear c4
   try clear c5
   try clear c5b0
   try clear c12
   try clear c13
   try clear c14
   try clear c15
   try clear c24
   try clear c28
   try clear c28b0
   try clear c28b1
   try clear hcz15_0
   try clear hcz15_1
   try clear hcz17_0
   try clear hcz17_1
   try clear hcz21_0
   try clear hcz21_1
   try clear hcz25_0
   try clear hcz25_1
   try clear hcz7_0
   try clear hcz7_1
   try clear hfz15_0
   try clear hfz15_1
   try clear hfz17_0
   try clear hfz17_1
   try clear hfz21_0
   try clear hfz21_1
   try clear hfz25_0
   try clear hfz25_1
   try clear hfz7_0
   try clear hfz7_1
   obtain ⟨kq, x42_12, rfl, HA, HJ12, HO_475001, BK462, BK474, HB⟩ := hcut
   cases kq with
   | zero => exact absurd HA.out (by simp [laws_FnExactSmallestSide.j0])
   | succ kj12 =>
    have H := HA.out
    clear HA
    simp only [laws_FnExactSmallestSide.j0] at H
    by_cases c29 : x42_12 = true
    ·subst c29
     have H1 : (some false) = some r := by rw [if_pos rfl] at H; exact H
     clear H
     have H := H1
     clear H1
     obtain rfl := Option.some.inj H
     go_wp2
     go_ret
     exact ⟨re_, bl2_ HB.out GE462.out GE474.out⟩
    ·replace c29 := Bool.eq_false_iff.mpr c29
     subst c29
     have H1 : ((laws_toTree.f kj12 a0_0 l0_1).bind fun bt477 => ((laws_eqTree.f kj12 t470 t471 bt477.1 bt477.2).bind fun t481 => (if t481 = true then (some true) else (some false)))) = some r := by rw [if_neg (show ¬ (false = true) by decide)] at H; exact H
     clear H
     have H := H1
     clear H1
     replace H := Option.bind_eq_some_iff.mp H
     obtain ⟨⟨t477, t478⟩, A300, H⟩ := H
     replace H : ((laws_eqTree.f kj12 t470 t471 t477 t478).bind fun t481 => (if t481 = true then (some true) else (some false))) = some r := H
     have A30 := Aside0.mk A300
     clear A300
     replace H := Option.bind_eq_some_iff.mp H
     obtain ⟨t481, A310, H⟩ := H
     replace H : (if t481 = true then (some true) else (some false)) = some r := H
     have A31 := Aside0.mk A310
     clear A310
     by_cases c32 : t481 = true
     ·subst c32
      have H1 : (some true) = some r := by rw [if_pos rfl] at H; exact H
      clear H
      have H := H1
      clear H1
      obtain rfl := Option.some.inj H
      try go_wp2
      have n0_ := Aside0.mk (Kd.R_drew HO_475001.out)
      have n1_ := Aside0.mk (blk_drew BK462.out)
      have n2_ := Aside0.mk (blk_drew BK474.out)
      have n3_ := Aside0.mk (below_drew1 HB.out)
      clear HO_475001
      clear BK462
      clear BK474
      clear HB
      have HO_475001 := n0_
      have BK462 := n1_
      have BK474 := n2_
      have HB := n3_
      clear n0_ n1_ n2_ n3_
      refine start_ (n := 5) (S := fun w' => w'.cell? ⟨gb474, 0, none⟩ = some (.int .i64 t470) ∧ w'.cell? ⟨gb474, 1, none⟩ = some (.slice Ao26 t471.length co26) ∧ w'.cell? ⟨gb462, 0, none⟩ = some (.int .i64 a0_0) ∧ w'.cell? ⟨gb462, 1, none⟩ = some (.slice A0_1 l0_1.length c0_1)) (ds := []) #[false,false,false,false,false] (by kernel_rfl) rfl rfl ⟨(blk_cell BK474.out 0).trans rfl, (blk_cell BK474.out 1).trans rfl, (blk_cell BK462.out 0).trans rfl, (blk_cell BK462.out 1).trans rfl⟩ (fun hHeld => ?_)
      generalize wc.drew = w33 at HO_475001 BK462 BK474 HB hHeld ⊢
      refine tkz_ 0 (some 43) #[true,false,false,false,false] rfl rfl (by kernel_rfl) hHeld ?_
      refine tkz_ 1 (some 44) #[true,true,false,false,false] rfl rfl (by kernel_rfl) hHeld ?_
      refine one_ (i := 2) (N := some 45) #[true,true,true,false,false] rfl rfl (by kernel_rfl) (by decide) (fun K hK => ?_)
      refine goes_ Try.func15 (by kernel_rfl) rfl #[.agg #[.int .i64 a0_0, .slice A0_1 l0_1.length c0_1]] (by rfl) rfl rfl mp_ ?_
      with_reducible refine (laws_toTree.calls kj12 a0_0 _ _ l0_1 t477 t478 _ ?side1 ?side2 A30.out).mono ?_
      (case side1 => exact ca_ (Kd.C_below HR0_1.out HB.out))
      (case side2 => exact HC0_1.out)
      rintro e w34 ⟨v479, rfl, ho0, hb⟩
      refine ⟨_, rfl, ?_⟩
      have n0_ := Aside0.mk (Kd.R_elder' (ra_ HO_475001.out) (Kd.R_base ho0) hb)
      have n1_ := Aside0.mk (Kd.R_lower (Kd.R_new' ho0 (Kd.R_lt (ra_ HO_475001.out))) (below_size (bl2_ HB.out GE462.out GE474.out)))
      have n2_ := Aside0.mk (blk_below (g := gb462) (o := .cells #[.int .i64 a0_0, .slice A0_1 l0_1.length c0_1] 42 (0, 0)) (bk_ BK462.out) hb)
      have n3_ := Aside0.mk (blk_below (g := gb474) (o := .cells #[.int .i64 t470, .slice Ao26 t471.length co26] 26 (0, 0)) (bk_ BK474.out) hb)
      have n4_ := Aside0.mk (below_step (bl2_ HB.out GE462.out GE474.out) hb)
      clear HO_475001
      clear BK462
      clear BK474
      clear HB
      have HO_475001 := n0_
      have HO480 := n1_
      have BK462 := n2_
      have BK474 := n3_
      have HB := n4_
      clear n0_ n1_ n2_ n3_ n4_
      (try clear hb)
      (try clear hb2)
      (try clear hk)
      (try clear hi)
      (try clear ho0)
      obtain ⟨Ao35, co35, eo35⟩ := Kd.R_slice HO480.out
      (first | subst eo35 | (injection eo35 with f1_ f2_ f3_; have f4_ := f1_.symm; have f5_ := f3_.symm; clear f1_ f2_ f3_; subst f4_; subst f5_))
      refine hK.out _ _ ⟨(blk_cell BK474.out 0).trans rfl, (blk_cell BK474.out 1).trans rfl, (blk_cell BK462.out 0).trans rfl, (blk_cell BK462.out 1).trans rfl⟩ (fun hHeld => ?_)
      clear hK K
      refine norm_ (a' := ?_) ?_ ?_
      rotate_left
      ·show Act.put _ (some 45) _ = _
       simp only [Act.put, List.setIfInBounds_toArray, List.set_cons_zero, List.set_cons_succ, i64_w, i32_w]
       rfl
      refine one_ (i := 3) (N := some 46) #[true,true,true,true,false] rfl rfl (by kernel_rfl) (by decide) (fun K hK => ?_)
      refine goes_ Try.func16 (by kernel_rfl) rfl #[.agg #[.int .i64 t470, .slice Ao26 t471.length co26], .agg #[.int .i64 t477, .slice Ao35 t478.length co35]] (by rfl) rfl rfl mp_ ?_
      with_reducible refine (laws_eqTree.calls kj12 t470 _ _ t471 t477 _ _ t478 true _ ?side1 ?side2 ?side3 ?side4 A31.out).mono ?_
      (case side1 => exact ca_ (Kd.R_reads' HO_475001.out).2.2)
      (case side2 => exact (Kd.R_reads' HO_475001.out).2.1)
      (case side3 => exact ca_ (Kd.R_reads' HO480.out).2.2)
      (case side4 => exact (Kd.R_reads' HO480.out).2.1)
      rintro e w36 ⟨rfl, hb⟩
      refine ⟨_, rfl, ?_⟩
      have n0_ := Aside0.mk (Kd.R_below (ra_ HO_475001.out) hb)
      have n1_ := Aside0.mk (Kd.R_below (ra_ HO480.out) hb)
      have n2_ := Aside0.mk (blk_below (g := gb462) (o := .cells #[.int .i64 a0_0, .slice A0_1 l0_1.length c0_1] 42 (0, 0)) (bk_ BK462.out) hb)
      have n3_ := Aside0.mk (blk_below (g := gb474) (o := .cells #[.int .i64 t470, .slice Ao26 t471.length co26] 26 (0, 0)) (bk_ BK474.out) hb)
      have n4_ := Aside0.mk (below_step (bl2_ HB.out GE462.out GE474.out) hb)
      clear HO_475001
      clear HO480
      clear BK462
      clear BK474
      clear HB
      have HO_475001 := n0_
      have HO480 := n1_
      have BK462 := n2_
      have BK474 := n3_
      have HB := n4_
      clear n0_ n1_ n2_ n3_ n4_
      (try clear hb)
      (try clear hb2)
      (try clear hk)
      (try clear hi)
      refine hK.out _ _ ⟨(blk_cell BK474.out 0).trans rfl, (blk_cell BK474.out 1).trans rfl, (blk_cell BK462.out 0).trans rfl, (blk_cell BK462.out 1).trans rfl⟩ (fun hHeld => ?_)
      clear hK K
      refine norm_ (a' := ?_) ?_ ?_
      rotate_left
      ·show Act.put _ (some 46) _ = _
       simp only [Act.put, List.setIfInBounds_toArray, List.set_cons_zero, List.set_cons_succ, i64_w, i32_w]
       rfl
      refine puz_ 4 (some 47) #[true,true,true,true,true] rfl rfl (by kernel_rfl) ?_
      refine done_ (by kernel_rfl) ?_
      try go_wp2
      go_ret
      exact ⟨re_, bl2_ HB.out GE462.out GE474.out⟩
     ·replace c32 := Bool.eq_false_iff.mpr c32
      subst c32
      have H1 : (some false) = some r := by rw [if_neg (show ¬ (false = true) by decide)] at H; exact H
      clear H
      have H := H1
      clear H1
      obtain rfl := Option.some.inj H
      try go_wp2
      have n0_ := Aside0.mk (Kd.R_drew HO_475001.out)
      have n1_ := Aside0.mk (blk_drew BK462.out)
      have n2_ := Aside0.mk (blk_drew BK474.out)
      have n3_ := Aside0.mk (below_drew1 HB.out)
      clear HO_475001
      clear BK462
      clear BK474
      clear HB
      have HO_475001 := n0_
      have BK462 := n1_
      have BK474 := n2_
      have HB := n3_
      clear n0_ n1_ n2_ n3_
      refine start_ (n := 5) (S := fun w' => w'.cell? ⟨gb474, 0, none⟩ = some (.int .i64 t470) ∧ w'.cell? ⟨gb474, 1, none⟩ = some (.slice Ao26 t471.length co26) ∧ w'.cell? ⟨gb462, 0, none⟩ = some (.int .i64 a0_0) ∧ w'.cell? ⟨gb462, 1, none⟩ = some (.slice A0_1 l0_1.length c0_1)) (ds := []) #[false,false,false,false,false] (by kernel_rfl) rfl rfl ⟨(blk_cell BK474.out 0).trans rfl, (blk_cell BK474.out 1).trans rfl, (blk_cell BK462.out 0).trans rfl, (blk_cell BK462.out 1).trans rfl⟩ (fun hHeld => ?_)
      generalize wc.drew = w37 at HO_475001 BK462 BK474 HB hHeld ⊢
      refine tkz_ 0 (some 43) #[true,false,false,false,false] rfl rfl (by kernel_rfl) hHeld ?_
      refine tkz_ 1 (some 44) #[true,true,false,false,false] rfl rfl (by kernel_rfl) hHeld ?_
      refine one_ (i := 2) (N := some 45) #[true,true,true,false,false] rfl rfl (by kernel_rfl) (by decide) (fun K hK => ?_)
      refine goes_ Try.func15 (by kernel_rfl) rfl #[.agg #[.int .i64 a0_0, .slice A0_1 l0_1.length c0_1]] (by rfl) rfl rfl mp_ ?_
      with_reducible refine (laws_toTree.calls kj12 a0_0 _ _ l0_1 t477 t478 _ ?side1 ?side2 A30.out).mono ?_
      (case side1 => exact ca_ (Kd.C_below HR0_1.out HB.out))
      (case side2 => exact HC0_1.out)
      rintro e w38 ⟨v479, rfl, ho0, hb⟩
      refine ⟨_, rfl, ?_⟩
      have n0_ := Aside0.mk (Kd.R_elder' (ra_ HO_475001.out) (Kd.R_base ho0) hb)
      have n1_ := Aside0.mk (Kd.R_lower (Kd.R_new' ho0 (Kd.R_lt (ra_ HO_475001.out))) (below_size (bl2_ HB.out GE462.out GE474.out)))
      have n2_ := Aside0.mk (blk_below (g := gb462) (o := .cells #[.int .i64 a0_0, .slice A0_1 l0_1.length c0_1] 42 (0, 0)) (bk_ BK462.out) hb)
      have n3_ := Aside0.mk (blk_below (g := gb474) (o := .cells #[.int .i64 t470, .slice Ao26 t471.length co26] 26 (0, 0)) (bk_ BK474.out) hb)
      have n4_ := Aside0.mk (below_step (bl2_ HB.out GE462.out GE474.out) hb)
      clear HO_475001
      clear BK462
      clear BK474
      clear HB
      have HO_475001 := n0_
      have HO480 := n1_
      have BK462 := n2_
      have BK474 := n3_
      have HB := n4_
      clear n0_ n1_ n2_ n3_ n4_
      (try clear hb)
      (try clear hb2)
      (try clear hk)
      (try clear hi)
      (try clear ho0)
      obtain ⟨Ao39, co39, eo39⟩ := Kd.R_slice HO480.out
      (first | subst eo39 | (injection eo39 with f1_ f2_ f3_; have f4_ := f1_.symm; have f5_ := f3_.symm; clear f1_ f2_ f3_; subst f4_; subst f5_))
      refine hK.out _ _ ⟨(blk_cell BK474.out 0).trans rfl, (blk_cell BK474.out 1).trans rfl, (blk_cell BK462.out 0).trans rfl, (blk_cell BK462.out 1).trans rfl⟩ (fun hHeld => ?_)
      clear hK K
      refine norm_ (a' := ?_) ?_ ?_
      rotate_left
      ·show Act.put _ (some 45) _ = _
       simp only [Act.put, List.setIfInBounds_toArray, List.set_cons_zero, List.set_cons_succ, i64_w, i32_w]
       rfl
      refine one_ (i := 3) (N := some 46) #[true,true,true,true,false] rfl rfl (by kernel_rfl) (by decide) (fun K hK => ?_)
      refine goes_ Try.func16 (by kernel_rfl) rfl #[.agg #[.int .i64 t470, .slice Ao26 t471.length co26], .agg #[.int .i64 t477, .slice Ao39 t478.length co39]] (by rfl) rfl rfl mp_ ?_
      with_reducible refine (laws_eqTree.calls kj12 t470 _ _ t471 t477 _ _ t478 false _ ?side1 ?side2 ?side3 ?side4 A31.out).mono ?_
      (case side1 => exact ca_ (Kd.R_reads' HO_475001.out).2.2)
      (case side2 => exact (Kd.R_reads' HO_475001.out).2.1)
      (case side3 => exact ca_ (Kd.R_reads' HO480.out).2.2)
      (case side4 => exact (Kd.R_reads' HO480.out).2.1)
      rintro e w40 ⟨rfl, hb⟩
      refine ⟨_, rfl, ?_⟩
      have n0_ := Aside0.mk (Kd.R_below (ra_ HO_475001.out) hb)
      have n1_ := Aside0.mk (Kd.R_below (ra_ HO480.out) hb)
      have n2_ := Aside0.mk (blk_below (g := gb462) (o := .cells #[.int .i64 a0_0, .slice A0_1 l0_1.length c0_1] 42 (0, 0)) (bk_ BK462.out) hb)
      have n3_ := Aside0.mk (blk_below (g := gb474) (o := .cells #[.int .i64 t470, .slice Ao26 t471.length co26] 26 (0, 0)) (bk_ BK474.out) hb)
      have n4_ := Aside0.mk (below_step (bl2_ HB.out GE462.out GE474.out) hb)
      clear HO_475001
      clear HO480
      clear BK462
      clear BK474
      clear HB
      have HO_475001 := n0_
      have HO480 := n1_
      have BK462 := n2_
      have BK474 := n3_
      have HB := n4_
      clear n0_ n1_ n2_ n3_ n4_
      (try clear hb)
      (try clear hb2)
      (try clear hk)
      (try clear hi)
      refine hK.out _ _ ⟨(blk_cell BK474.out 0).trans rfl, (blk_cell BK474.out 1).trans rfl, (blk_cell BK462.out 0).trans rfl, (blk_cell BK462.out 1).trans rfl⟩ (fun hHeld => ?_)
      clear hK K
      refine norm_ (a' := ?_) ?_ ?_
      rotate_left
      ·show Act.put _ (some 46) _ = _
       simp only [Act.put, List.setIfInBounds_toArray, List.set_cons_zero, List.set_cons_succ, i64_w, i32_w]
       rfl
      refine puz_ 4 (some 47) #[true,true,true,true,true] rfl rfl (by kernel_rfl) ?_
      refine done_ (by kernel_rfl) ?_
      try go_wp2
      go_ret
      exact ⟨re_, bl2_ HB.out GE462.out GE474.out⟩

end Go.Proofs.Ytmckbecegiegaaa.A
