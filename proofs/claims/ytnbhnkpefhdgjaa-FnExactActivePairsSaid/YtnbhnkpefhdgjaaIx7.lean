/- For functions of the translation: a Lean function each, and that the call of the Go function comes to its answer. Written by this session's own program (myprint.py, over the kit's printer). -/
import Derived.Test.YtnbhnkpefhdgjaaIx0
import Derived.Test.YtnbhnkpefhdgjaaIx3
import Derived.Test.YtnbhnkpefhdgjaaIx5
import Derived.Test.YtnbhnkpefhdgjaaIx6
--compacted
namespace Go.Proofs.Ytnbhnkpefhdgjaa.I
open Go.RowKit Go.Proofs.YtnbhnkpefhdgjaaW.PrintWords Go.Proofs.YtnbhnkpefhdgjaaW.PrintLast Go.Proofs.YtnbhnkpefhdgjaaW.PrintMore
attribute [local go_sem] max2_int min2_int max_two min_two max_three min_three max_four min_four   -- for this text's walks alone
set_option linter.unusedVariables false
set_option linter.unusedSimpArgs false

/-! ### spec_l30Packs: function 73 -/
mutual
def spec_l30Packs.l0 : Nat → Int → List (S68) → List (List Int) → Int → Option (Bool)
 | 0, _, _, _, _ => none
 | k + 1, x1, x2, x7, x8 => if x8 < (x2.length : Int) then (if 0 ≤ x8 then ((spec_l00In.f ((rd_T68 x2 x8).f0) 0 x1).bind fun t234 => (if t234 = true then ((spec_l00In.f ((rd_T68 x2 x8).f1) 0 x1).bind fun t236 => (spec_l30Packs.j1 k x1 x2 x7 x8 (!t236))) else (spec_l30Packs.j1 k x1 x2 x7 x8 true))) else (none)) else (some true)
def spec_l30Packs.j1 : Nat → Int → List (S68) → List (List Int) → Int → Bool → Option (Bool)
 | 0, _, _, _, _, _ => none
 | k + 1, x1, x2, x7, x8, x40 => if x40 = true then (some false) else (spec_l30Packs.l1 k x1 x2 x7 x8 0)
def spec_l30Packs.l1 : Nat → Int → List (S68) → List (List Int) → Int → Int → Option (Bool)
 | 0, _, _, _, _, _ => none
 | k + 1, x1, x2, x7, x8, x9 => if x9 < x8 then (if 0 ≤ x8 then (if x8 < (x2.length : Int) then (if 0 ≤ x9 then (if x9 < (x2.length : Int) then ((spec_l30Square.f ((rd_T68 x2 x8).f0) ((rd_T68 x2 x8).f1) ((rd_T68 x2 x9).f0) ((rd_T68 x2 x9).f1)).bind fun t239 => (if x8 < (x7.length : Int) then (if x9 < ((rd_L5 x7 x8).length : Int) then (if t239 < (wrap64 ((rd (rd_L5 x7 x8) x9) * (rd (rd_L5 x7 x8) x9))) then (some false) else (spec_l30Packs.l1 k x1 x2 x7 x8 (wrap64 (x9 + 1)))) else (none)) else (none))) else (none)) else (none)) else (none)) else (none)) else (spec_l30Packs.l0 k x1 x2 x7 (wrap64 (x8 + 1)))
end
def spec_l30Packs.f (k : Nat) (a0_0 : Int) (l0_1 : List (S71)) (a1 : Int) (l2 : List (S68)) : Option (Bool) := (spec_l30Distances.f k a0_0 l0_1).bind fun t230 => (if (l2.length : Int) = (t230.length : Int) then (spec_l30Packs.l0 k a1 l2 t230 0) else (some false))
theorem spec_l30Packs.mono_l : ∀ k, (∀ y0 y1 y2 y3, LeO (spec_l30Packs.l0 k y0 y1 y2 y3) (spec_l30Packs.l0 (k + 1) y0 y1 y2 y3)) ∧ (∀ y0 y1 y2 y3 y4, LeO (spec_l30Packs.j1 k y0 y1 y2 y3 y4) (spec_l30Packs.j1 (k + 1) y0 y1 y2 y3 y4)) ∧ (∀ y0 y1 y2 y3 y4, LeO (spec_l30Packs.l1 k y0 y1 y2 y3 y4) (spec_l30Packs.l1 (k + 1) y0 y1 y2 y3 y4))
 | 0 => ⟨fun _ _ _ _ r h => by simp [spec_l30Packs.l0] at h, fun _ _ _ _ _ r h => by simp [spec_l30Packs.j1] at h, fun _ _ _ _ _ r h => by simp [spec_l30Packs.l1] at h⟩
 | k + 1 => by
  obtain ⟨ih0, ih1, ih2⟩ := spec_l30Packs.mono_l k
  refine ⟨?_, ?_, ?_⟩
  ·intro y0 y1 y2 y3
   unfold spec_l30Packs.l0
   repeat' first
   | (with_reducible exact ih0 _ _ _ _)
   | (with_reducible exact ih1 _ _ _ _ _)
   | (with_reducible exact ih2 _ _ _ _ _)
   | (with_reducible exact spec_l30Distances.mono _ _ _)
   | (with_reducible exact LeO.refl _)
   | (with_reducible exact LeO.none _)
   | (with_reducible refine LeO.ite ?_ ?_)
   | (with_reducible refine LeO.bind ?_ (fun _ => ?_))
   | exact spec_l30Distances.mono _ _ _
   | exact LeO.none _
   | refine LeO.ite ?_ ?_
   | refine LeO.bind ?_ (fun _ => ?_)
  ·intro y0 y1 y2 y3 y4
   unfold spec_l30Packs.j1
   repeat' first
   | (with_reducible exact ih0 _ _ _ _)
   | (with_reducible exact ih1 _ _ _ _ _)
   | (with_reducible exact ih2 _ _ _ _ _)
   | (with_reducible exact spec_l30Distances.mono _ _ _)
   | (with_reducible exact LeO.refl _)
   | (with_reducible exact LeO.none _)
   | (with_reducible refine LeO.ite ?_ ?_)
   | (with_reducible refine LeO.bind ?_ (fun _ => ?_))
   | exact spec_l30Distances.mono _ _ _
   | exact LeO.none _
   | refine LeO.ite ?_ ?_
   | refine LeO.bind ?_ (fun _ => ?_)
  ·intro y0 y1 y2 y3 y4
   unfold spec_l30Packs.l1
   repeat' first
   | (with_reducible exact ih0 _ _ _ _)
   | (with_reducible exact ih1 _ _ _ _ _)
   | (with_reducible exact ih2 _ _ _ _ _)
   | (with_reducible exact spec_l30Distances.mono _ _ _)
   | (with_reducible exact LeO.refl _)
   | (with_reducible exact LeO.none _)
   | (with_reducible refine LeO.ite ?_ ?_)
   | (with_reducible refine LeO.bind ?_ (fun _ => ?_))
   | exact spec_l30Distances.mono _ _ _
   | exact LeO.none _
   | refine LeO.ite ?_ ?_
   | refine LeO.bind ?_ (fun _ => ?_)
theorem spec_l30Packs.mono : ∀ a0 a1 a2 a3 k, LeO (spec_l30Packs.f k a0 a1 a2 a3) (spec_l30Packs.f (k + 1) a0 a1 a2 a3) := by
 intro a0 a1 a2 a3 k
 obtain ⟨ih0, ih1, ih2⟩ := spec_l30Packs.mono_l k
 unfold spec_l30Packs.f
 repeat' first
   | (with_reducible exact ih0 _ _ _ _)
   | (with_reducible exact ih1 _ _ _ _ _)
   | (with_reducible exact ih2 _ _ _ _ _)
   | (with_reducible exact spec_l30Distances.mono _ _ _)
   | (with_reducible exact LeO.refl _)
   | (with_reducible exact LeO.none _)
   | (with_reducible refine LeO.ite ?_ ?_)
   | (with_reducible refine LeO.bind ?_ (fun _ => ?_))
   | exact spec_l30Distances.mono _ _ _
   | exact LeO.none _
   | refine LeO.ite ?_ ?_
   | refine LeO.bind ?_ (fun _ => ?_)
def spec_l30Packs.T12 : Bool × List (List Nat × List Nat) := (true, [([], []), ([], []), ([0, 1], [0, 1]), ([2], [2]), ([], []), ([], []), ([4, 5], [4, 5]), ([6], [6]), ([3, 7], [3, 7]), ([], []), ([], []), ([9, 10], [9, 10]), ([11], [11]), ([], []), ([12, 13], [12, 13]), ([14], [14]), ([], []), ([], []), ([16, 17], [16, 17]), ([18], [18]), ([], []), ([19, 20], [19, 20]), ([21], [21]), ([15, 22], [15, 22]), ([8, 23], [8, 23])])
def spec_l30Packs.B12 : List Nat := [0, 0, 3, 7, 0, 0, 48, 112, 255, 0, 0, 1536, 3584, 0, 15872, 32256, 0, 0, 196608, 458752, 0, 2031616, 4128768, 8388096, 16777215]
theorem spec_l30Packs.tab12 : rtab .any (opsOf Try.f73 12) = spec_l30Packs.T12 := by kernel_rfl
theorem spec_l30Packs.bits12 : waitsOk spec_l30Packs.T12.2 spec_l30Packs.B12 = true := by kernel_rfl
set_option maxHeartbeats 8000000 in
set_option maxRecDepth 100000 in
theorem spec_l30Packs.calls (k : Nat) (g0 : Nat) (a0_0 : Int) (A0_1 : Option Addr) (c0_1 : Nat) (l0_1 : List (S71)) (a1 : Int) (A2 : Option Addr) (c2 : Nat) (l2 : List (S68)) (r : Bool) (w : World) (hb0 : w.heap[g0]? = some (.cells #[.int .i64 a0_0, .slice A0_1 l0_1.length c0_1] 29 (0, 0))) (hr0_1 : Kd.C k71 w A0_1 l0_1.length l0_1) (hc0_1 : l0_1.length ≤ c0_1) (hr2 : Kd.C k68 w A2 l2.length l2) (hc2 : l2.length ≤ c2) (h : spec_l30Packs.f k a0_0 l0_1 a1 l2 = some r) :
  Calls Try.prog 73 #[.pointer (some ⟨g0, 0, none⟩), .int .i64 a1, .slice A2 l2.length c2] w fun e w' => e = .returned (.bool r) ∧ Below w.heap.size w w' := by
 have hu68 := Try.underlying68
 have HR0_1 := Aside0.mk hr0_1
 have HC0_1 := Aside0.mk hc0_1
 clear hr0_1 hc0_1
 have HR2 := Aside0.mk hr2
 have HC2 := Aside0.mk hc2
 clear hr2 hc2
 have BK0 := Aside0.mk hb0
 clear hb0
 have HB := Aside0.mk (Below.refl w.heap.size w)
 have H : ((spec_l30Distances.f k a0_0 l0_1).bind fun t230 => (if (l2.length : Int) = (t230.length : Int) then (spec_l30Packs.l0 k a1 l2 t230 0) else (some false))) = some r := h
 clear h
 replace H := Option.bind_eq_some_iff.mp H
 obtain ⟨t230, A40, H⟩ := H
 replace H : (if (l2.length : Int) = (t230.length : Int) then (spec_l30Packs.l0 k a1 l2 t230 0) else (some false)) = some r := H
 have A4 := Aside0.mk A40
 clear A40
 by_cases c5 : (l2.length : Int) = (t230.length : Int)
 ·rw [if_pos c5] at H
  have c5b0 : ((l2.length : Int) == (t230.length : Int)) = true := beq_iff_eq.mpr c5
  have c5b1 : ((l2.length : Int) != (t230.length : Int)) = false := bne_eq_false_iff_eq.mpr c5
  have c5b2 : (l2.length == t230.length) = true := by first | simpa using c5 | (simp at c5 ⊢; omega)
  clear c5
  have H' := Aside0.mk H
  clear H
  go_enter Try.func73, Try.ntmps73
  go_wp2_with (first | ((with_reducible refine gate_callee (f := 70) rfl ?_); refine goesL_ (some 11) rfl rfl Try.func70 (by kernel_rfl) rfl #[.pointer (some ⟨g0, 0, none⟩)] rfl mp_ ?_; (with_reducible refine (spec_l30Distances.calls k g0 a0_0 A0_1 c0_1 l0_1 t230 _ ?side1 ?side2 ?side3 A4.out).mono ?_); (case side1 => exact by (with_reducible repeat (first | refine blk_drewN ?_ _ | refine blk_drew ?_ | refine blk_alloc ?_ _)); exact BK0.out); (case side2 => repeat (first | exact HR0_1.out | (with_reducible refine Kd.C_alloc ?_ _) | (with_reducible refine Kd.C_drewN ?_ _) | (with_reducible refine Kd.C_drew ?_))); (case side3 => exact HC0_1.out); rintro e w6 ⟨v231, rfl, ho0, hb⟩; refine ⟨_, rfl, ?_⟩; have n0_ := Aside0.mk (Kd.S_lower ho0 (below_size (bl0_ HB.out))); have n1_ := Aside0.mk (blk_below (g := g0) (o := .cells #[.int .i64 a0_0, .slice A0_1 l0_1.length c0_1] 29 (0, 0)) (bk_ BK0.out) hb); have n2_ := Aside0.mk (below_step (bl0_ HB.out) hb); clear BK0; clear HB; have HO232 := n0_; have BK0 := n1_; have HB := n2_; clear n0_ n1_ n2_; (try clear hb); (try clear hb2); (try clear hk); (try clear hi); (try clear ho0); obtain ⟨Ao7, co7, eo7⟩ := Kd.S_slice HO232.out; subst eo7))
  go_loopg [8] k (fun kq v8 w' => ∃ (x8_1 : Int), v8 = .int .i64 x8_1 ∧ Aside0 (spec_l30Packs.l0 kq a1 l2 t230 x8_1 = some r) ∧ Aside0 (kq ≤ k) ∧ Aside0 (Kd.S (Kd.slice 2 (Kd.int .i64)) 36 w' w.heap.size (fun _ => True) (.slice Ao7 t230.length co7) t230) ∧ Aside0 (w'.heap[g0]? = some (.cells #[.int .i64 a0_0, (.slice A0_1 l0_1.length c0_1)] 29 (0, 0))) ∧ Aside0 (Below w.heap.size w w'))
  case atStart => exact ⟨(0), rs_, H', ⟨Nat.le_refl _⟩, ⟨by (with_reducible repeat (first | apply Kd.S_alloc | apply Kd.S_drewN | apply Kd.S_drew)); exact HO232.out⟩, ⟨bk_ BK0.out⟩, ⟨bl0_ HB.out⟩⟩
  case round =>
   clear H'
   try clear c2
   try clear p2
   try clear c5
   try clear c5b0
   try clear c5b1
   try clear c5b2
   try clear c7
   obtain ⟨x8_1, rfl, HA, HK1, HO_7, BK0, HB⟩ := hrel
   cases gk with
   | zero => exact absurd HA.out (by simp [spec_l30Packs.l0])
   | succ k1 =>
    have H := HA.out
    clear HA
    simp only [spec_l30Packs.l0] at H
    by_cases c8 : x8_1 < (l2.length : Int)
    ·rw [if_pos c8] at H
     have c8b0 := decide_eq_true c8
     clear c8
     have HC9 := Aside0.mk H
     clear H
     go_upto_region 7 with (fail)
     go_cut [40] (fun v40 wc => ∃ (kq : Nat) (x40_8 : Bool), v40 = .bool x40_8 ∧ Aside0 (spec_l30Packs.j1 kq a1 l2 t230 x8_1 x40_8 = some r) ∧ Aside0 (kq ≤ k1) ∧ Aside0 (Kd.S (Kd.slice 2 (Kd.int .i64)) 36 wc w.heap.size (fun _ => True) (.slice Ao7 t230.length co7) t230) ∧ Aside0 (wc.heap[g0]? = some (.cells #[.int .i64 a0_0, (.slice A0_1 l0_1.length c0_1)] 29 (0, 0))) ∧ Aside0 (Below w.heap.size w wc))
     case first =>
      have H := HC9.out
      clear HC9
      by_cases c10 : 0 ≤ x8_1
      rotate_left
      ·exact nope_ c10 H
      rw [if_pos c10] at H
      have c10b0 := decide_eq_true c10
      clear c10
      (first | rw [c10b0] | (simp only [i64_w, i32_w]; rw [c10b0]) | skip)
      replace H := Option.bind_eq_some_iff.mp H
      obtain ⟨t234, A110, H⟩ := H
      replace H : (if t234 = true then ((spec_l00In.f ((rd_T68 l2 x8_1).f1) 0 a1).bind fun t236 => (spec_l30Packs.j1 k1 a1 l2 t230 x8_1 (!t236))) else (spec_l30Packs.j1 k1 a1 l2 t230 x8_1 true)) = some r := H
      have A11 := Aside0.mk A110
      clear A110
      by_cases c12 : t234 = true
      ·subst c12
       have H1 : ((spec_l00In.f ((rd_T68 l2 x8_1).f1) 0 a1).bind fun t236 => (spec_l30Packs.j1 k1 a1 l2 t230 x8_1 (!t236))) = some r := by rw [if_pos rfl] at H; exact H
       clear H
       have H := H1
       clear H1
       replace H := Option.bind_eq_some_iff.mp H
       obtain ⟨t236, A130, H⟩ := H
       replace H : (spec_l30Packs.j1 k1 a1 l2 t230 x8_1 (!t236)) = some r := H
       have A13 := Aside0.mk A130
       clear A130
       have H' := Aside0.mk H
       clear H
       have p233 : 0 ≤ (x8_1 : Int) := od_
       have q233 : x8_1 < (l2.length : Int) := od_
       obtain ⟨ad233, e233, hx233_0, hx233_1⟩ := at_T68 HR2.out x8_1 p233 q233
       cases e233
       replace hx233_0 := (HB.out.cell (World.block_lt_of_cell? w _ hx233_0)).trans hx233_0
       replace hx233_1 := (HB.out.cell (World.block_lt_of_cell? w _ hx233_1)).trans hx233_1
       replace p233 := eq_true p233
       replace q233 := eq_true q233
       go_wp2_with (first | ((with_reducible refine gate_callee (f := 72) rfl ?_); refine goesL_ (some 29) rfl rfl Try.func72 (by kernel_rfl) rfl #[.int .i64 ((rd_T68 l2 x8_1).f0), .int .i64 0, .int .i64 a1] rfl mp_ ?_; (with_reducible refine (spec_l00In.calls ((rd_T68 l2 x8_1).f0) 0 a1 true _ A11.out).mono ?_); rintro e w' ⟨rfl, ⟨nd, rfl⟩⟩; refine ⟨_, rfl, ?_⟩; have p235 : 0 ≤ (x8_1 : Int) := od_; have q235 : x8_1 < (l2.length : Int) := od_; obtain ⟨ad235, e235, hx235_0, hx235_1⟩ := at_T68 HR2.out x8_1 p235 q235; obtain rfl : ad233 = ad235 := (by injection e235); replace hx235_0 := (HB.out.cell (World.block_lt_of_cell? w _ hx235_0)).trans hx235_0; replace hx235_1 := (HB.out.cell (World.block_lt_of_cell? w _ hx235_1)).trans hx235_1; replace p235 := eq_true p235; replace q235 := eq_true q235) | (go_at_call 72; (with_reducible refine (spec_l00In.calls ((rd_T68 l2 x8_1).f1) 0 a1 t236 _ A13.out).mono ?_); rintro e w' ⟨rfl, ⟨nd, rfl⟩⟩))
       go_meet
       case rel => exact ⟨_, (!t236), rs_, H', ⟨by have := HK1.out; first | omega | exact Nat.le_refl _⟩, ⟨by (with_reducible repeat (first | apply Kd.S_alloc | apply Kd.S_drewN | apply Kd.S_drew)); exact HO_7.out⟩, ⟨bk_ BK0.out⟩, ⟨bl0_ HB.out⟩⟩
      ·replace c12 := Bool.eq_false_iff.mpr c12
       subst c12
       have H1 : (spec_l30Packs.j1 k1 a1 l2 t230 x8_1 true) = some r := by rw [if_neg (show ¬ (false = true) by decide)] at H; exact H
       clear H
       have H := H1
       clear H1
       have H' := Aside0.mk H
       clear H
       have p233 : 0 ≤ (x8_1 : Int) := od_
       have q233 : x8_1 < (l2.length : Int) := od_
       obtain ⟨ad233, e233, hx233_0, hx233_1⟩ := at_T68 HR2.out x8_1 p233 q233
       cases e233
       replace hx233_0 := (HB.out.cell (World.block_lt_of_cell? w _ hx233_0)).trans hx233_0
       replace hx233_1 := (HB.out.cell (World.block_lt_of_cell? w _ hx233_1)).trans hx233_1
       replace p233 := eq_true p233
       replace q233 := eq_true q233
       go_wp2_with (first | ((with_reducible refine gate_callee (f := 72) rfl ?_); refine goesL_ (some 29) rfl rfl Try.func72 (by kernel_rfl) rfl #[.int .i64 ((rd_T68 l2 x8_1).f0), .int .i64 0, .int .i64 a1] rfl mp_ ?_; (with_reducible refine (spec_l00In.calls ((rd_T68 l2 x8_1).f0) 0 a1 false _ A11.out).mono ?_); rintro e w' ⟨rfl, ⟨nd, rfl⟩⟩; refine ⟨_, rfl, ?_⟩))
       go_meet
       case rel => exact ⟨_, (true), rs_, H', ⟨by have := HK1.out; first | omega | exact Nat.le_refl _⟩, ⟨by (with_reducible repeat (first | apply Kd.S_alloc | apply Kd.S_drewN | apply Kd.S_drew)); exact HO_7.out⟩, ⟨bk_ BK0.out⟩, ⟨bl0_ HB.out⟩⟩
     case rest =>
      clear HC9
      try clear c1
      try clear c2
      try clear p2
      try clear q2
      try clear hx2
      try clear c5
      try clear c5b0
      try clear c5b1
      try clear c5b2
      try clear c7
      try clear c8
      try clear c8b0
      try clear c10
      try clear c10b0
      try clear c12
      try clear hx233_0
      try clear hx233_1
      try clear hx235_0
      try clear hx235_1
      try clear p2
      try clear p233
      try clear p235
      try clear q233
      try clear q235
      obtain ⟨kq, x40_8, rfl, HA, HJ8, HO_7, BK0, HB⟩ := hcut
      cases kq with
      | zero => exact absurd HA.out (by simp [spec_l30Packs.j1])
      | succ kj8 =>
       have H := HA.out
       clear HA
       simp only [spec_l30Packs.j1] at H
       by_cases c14 : x40_8 = true
       ·subst c14
        have H1 : (some false) = some r := by rw [if_pos rfl] at H; exact H
        clear H
        have H := H1
        clear H1
        obtain rfl := Option.some.inj H
        go_wp2
        go_ret
        exact ⟨re_, bl0_ HB.out⟩
       ·replace c14 := Bool.eq_false_iff.mpr c14
        subst c14
        have H1 : (spec_l30Packs.l1 kj8 a1 l2 t230 x8_1 0) = some r := by rw [if_neg (show ¬ (false = true) by decide)] at H; exact H
        clear H
        have H := H1
        clear H1
        have H' := Aside0.mk H
        clear H
        go_wp2
        go_loopg [9] kj8 (fun kq v9 w' => ∃ (x9_3 : Int), v9 = .int .i64 x9_3 ∧ Aside0 (spec_l30Packs.l1 kq a1 l2 t230 x8_1 x9_3 = some r) ∧ Aside0 (kq ≤ kj8) ∧ Aside0 (Kd.S (Kd.slice 2 (Kd.int .i64)) 36 w' w.heap.size (fun _ => True) (.slice Ao7 t230.length co7) t230) ∧ Aside0 (w'.heap[g0]? = some (.cells #[.int .i64 a0_0, (.slice A0_1 l0_1.length c0_1)] 29 (0, 0))) ∧ Aside0 (Below w.heap.size w w'))
        case atStart => exact ⟨(0), rs_, H', ⟨Nat.le_refl _⟩, ⟨by (with_reducible repeat (first | apply Kd.S_alloc | apply Kd.S_drewN | apply Kd.S_drew)); exact HO_7.out⟩, ⟨bk_ BK0.out⟩, ⟨bl0_ HB.out⟩⟩
        case round =>
         clear H'
         try clear c1
         try clear c2
         try clear p2
         try clear q2
         try clear hx2
         try clear c5
         try clear c5b0
         try clear c5b1
         try clear c5b2
         try clear c7
         try clear c8
         try clear c8b0
         try clear c10
         try clear c10b0
         try clear c12
         try clear c14
         try clear hx233_0
         try clear hx233_1
         try clear hx235_0
         try clear hx235_1
         try clear p2
         try clear p233
         try clear p235
         try clear q2
         try clear q233
         try clear q235
         obtain ⟨x9_3, rfl, HA, HK3, HO_7, BK0, HB⟩ := hrel
         cases gk with
         | zero => exact absurd HA.out (by simp [spec_l30Packs.l1])
         | succ k3 =>
          have H := HA.out
          clear HA
          simp only [spec_l30Packs.l1] at H
          by_cases c15 : x9_3 < x8_1
          ·rw [if_pos c15] at H
           have c15b0 := decide_eq_true c15
           clear c15
           by_cases c16 : 0 ≤ x8_1
           rotate_left
           ·exact nope_ c16 H
           rw [if_pos c16] at H
           have c16b0 := decide_eq_true c16
           clear c16
           by_cases c17 : x8_1 < (l2.length : Int)
           rotate_left
           ·exact nope_ c17 H
           rw [if_pos c17] at H
           have c17b0 := decide_eq_true c17
           clear c17
           by_cases c18 : 0 ≤ x9_3
           rotate_left
           ·exact nope_ c18 H
           rw [if_pos c18] at H
           have c18b0 := decide_eq_true c18
           clear c18
           by_cases c19 : x9_3 < (l2.length : Int)
           rotate_left
           ·exact nope_ c19 H
           rw [if_pos c19] at H
           have c19b0 := decide_eq_true c19
           clear c19
           replace H := Option.bind_eq_some_iff.mp H
           obtain ⟨t239, A200, H⟩ := H
           replace H : (if x8_1 < (t230.length : Int) then (if x9_3 < ((rd_L5 t230 x8_1).length : Int) then (if t239 < (wrap64 ((rd (rd_L5 t230 x8_1) x9_3) * (rd (rd_L5 t230 x8_1) x9_3))) then (some false) else (spec_l30Packs.l1 k3 a1 l2 t230 x8_1 (wrap64 (x9_3 + 1)))) else (none)) else (none)) = some r := H
           have A20 := Aside0.mk A200
           clear A200
           by_cases c21 : x8_1 < (t230.length : Int)
           rotate_left
           ·exact nope_ c21 H
           rw [if_pos c21] at H
           have c21b0 := decide_eq_true c21
           clear c21
           by_cases c22 : x9_3 < ((rd_L5 t230 x8_1).length : Int)
           rotate_left
           ·exact nope_ c22 H
           rw [if_pos c22] at H
           have c22b0 := decide_eq_true c22
           clear c22
           by_cases c23 : t239 < (wrap64 ((rd (rd_L5 t230 x8_1) x9_3) * (rd (rd_L5 t230 x8_1) x9_3)))
           ·rw [if_pos c23] at H
            have c23b0 := decide_eq_true c23
            clear c23
            obtain rfl := Option.some.inj H
            try go_wp2
            have n0_ := Aside0.mk (Kd.S_drew HO_7.out)
            have n1_ := Aside0.mk (blk_drew BK0.out)
            have n2_ := Aside0.mk (below_drew1 HB.out)
            clear HO_7
            clear BK0
            clear HB
            have HO_7 := n0_
            have BK0 := n1_
            have HB := n2_
            clear n0_ n1_ n2_
            have p237 : 0 ≤ (x8_1 : Int) := od_
            have q237 : x8_1 < (l2.length : Int) := od_
            obtain ⟨ad237, e237, hx237_0, hx237_1⟩ := at_T68 HR2.out x8_1 p237 q237
            have hw237_1 := hx237_1
            have hw237_0 := hx237_0
            cases e237
            replace hx237_0 := (HB.out.cell (World.block_lt_of_cell? w _ hx237_0)).trans hx237_0
            replace hx237_1 := (HB.out.cell (World.block_lt_of_cell? w _ hx237_1)).trans hx237_1
            replace p237 := eq_true p237
            replace q237 := eq_true q237
            have p238 : 0 ≤ (x9_3 : Int) := od_
            have q238 : x9_3 < (l2.length : Int) := od_
            obtain ⟨ad238, e238, hx238_0, hx238_1⟩ := at_T68 HR2.out x9_3 p238 q238
            have hw238_1 := hx238_1
            have hw238_0 := hx238_0
            obtain rfl : ad237 = ad238 := (by injection e238)
            replace hx238_0 := (HB.out.cell (World.block_lt_of_cell? w _ hx238_0)).trans hx238_0
            replace hx238_1 := (HB.out.cell (World.block_lt_of_cell? w _ hx238_1)).trans hx238_1
            replace p238 := eq_true p238
            replace q238 := eq_true q238
            have p240 : 0 ≤ (x8_1 : Int) := od_
            have q240 : x8_1 < (t230.length : Int) := od_
            obtain ⟨ad240, A240_0, c240_0, e240, hx240_0, hl240_0, hi240_0⟩ := at_L5 (Kd.S_reads' HO_7.out).2.2 x8_1 p240 q240
            cases e240
            obtain ⟨ce240, hce240, hMe240, hcc240⟩ := Kd.S_get HO_7.out [] x8_1 p240 (by first | exact q240 | exact od_ | (have e_ := (Kd.S_reads' HO_7.out).1; omega))
            obtain ⟨ve240_0, rfl, ge240_0⟩ := hMe240
            have hv240_0 := hcc240 0 _ rfl
            rw [Nat.add_zero, show ((Kd.slice 2 (Kd.int .i64))).sz = 1 from rfl, Nat.mul_one] at hv240_0
            replace hv240_0 := Option.some.inj (hv240_0.symm.trans hx240_0)
            rw [hv240_0] at ge240_0
            have HL240_0 := Aside0.mk (show Kd.R (Kd.int .i64) 2 _ _ _ _ (rd_L5 t230 x8_1) from ge240_0)
            clear hv240_0 ge240_0
            clear hcc240 hce240
            have HR240_0 := Aside0.mk hi240_0
            have HC240_0 := Aside0.mk hl240_0
            clear hi240_0 hl240_0
            replace p240 := eq_true p240
            replace q240 := eq_true q240
            have p241 : 0 ≤ (x9_3 : Int) := od_
            have q241 : x9_3 < ((rd_L5 t230 x8_1).length : Int) := od_
            obtain ⟨ad241, e241, hx241_0⟩ := Kd.at_int (by repeat (first | (with_reducible exact HR240_0.out) | (with_reducible refine Kd.C_alloc ?_ _) | (with_reducible refine Kd.C_drewN ?_ _) | (with_reducible refine Kd.C_drew ?_) | exact HR240_0.out)) x9_3 p241 q241
            cases e241
            replace p241 := eq_true p241
            replace q241 := eq_true q241
            have p242 : 0 ≤ (x8_1 : Int) := od_
            have q242 : x8_1 < (t230.length : Int) := od_
            obtain ⟨ad242, A242_0, c242_0, e242, hx242_0, hl242_0, hi242_0⟩ := at_L5 (Kd.S_reads' HO_7.out).2.2 x8_1 p242 q242
            obtain rfl : ad240 = ad242 := (by injection e242)
            obtain ⟨ce242, hce242, hMe242, hcc242⟩ := Kd.S_get HO_7.out [] x8_1 p242 (by first | exact q242 | exact od_ | (have e_ := (Kd.S_reads' HO_7.out).1; omega))
            obtain ⟨ve242_0, rfl, ge242_0⟩ := hMe242
            have hv242_0 := hcc242 0 _ rfl
            rw [Nat.add_zero, show ((Kd.slice 2 (Kd.int .i64))).sz = 1 from rfl, Nat.mul_one] at hv242_0
            replace hv242_0 := Option.some.inj (hv242_0.symm.trans hx242_0)
            rw [hv242_0] at ge242_0
            have HL242_0 := Aside0.mk (show Kd.R (Kd.int .i64) 2 _ _ _ _ (rd_L5 t230 x8_1) from ge242_0)
            clear hv242_0 ge242_0
            clear hcc242 hce242
            have HR242_0 := Aside0.mk hi242_0
            have HC242_0 := Aside0.mk hl242_0
            clear hi242_0 hl242_0
            replace p242 := eq_true p242
            replace q242 := eq_true q242
            have ea_ := Option.some.inj (hx240_0.symm.trans hx242_0)
            injection ea_ with ea_ en_ ec_
            subst ea_
            subst ec_
            clear en_
            have p243 : 0 ≤ (x9_3 : Int) := od_
            have q243 : x9_3 < ((rd_L5 t230 x8_1).length : Int) := od_
            obtain ⟨ad241, e243, hx243_0⟩ := Kd.at_int (by repeat (first | (with_reducible exact HR242_0.out) | (with_reducible refine Kd.C_alloc ?_ _) | (with_reducible refine Kd.C_drewN ?_ _) | (with_reducible refine Kd.C_drew ?_) | exact HR242_0.out)) x9_3 p243 q243
            cases e243
            replace p243 := eq_true p243
            replace q243 := eq_true q243
            refine start_ (n := 25) (S := fun w' => w'.cell? (ad237.add ((x8_1).toNat * 2)) = some (.int .i64 ((rd_T68 l2 x8_1).f0)) ∧ w'.cell? ⟨(ad237.add ((x8_1).toNat * 2)).block, (ad237.add ((x8_1).toNat * 2)).off + 1, none⟩ = some (.int .i64 ((rd_T68 l2 x8_1).f1)) ∧ w'.cell? (ad237.add ((x9_3).toNat * 2)) = some (.int .i64 ((rd_T68 l2 x9_3).f0)) ∧ w'.cell? ⟨(ad237.add ((x9_3).toNat * 2)).block, (ad237.add ((x9_3).toNat * 2)).off + 1, none⟩ = some (.int .i64 ((rd_T68 l2 x9_3).f1)) ∧ w'.cell? (ad240.add (x8_1).toNat) = some (.slice (some ad241) (rd_L5 t230 x8_1).length c240_0) ∧ w'.cell? (ad241.add (x9_3).toNat) = some (.int .i64 (rd (rd_L5 t230 x8_1) x9_3)) ∧ w'.cell? (ad240.add (x8_1).toNat) = some (.slice (some ad241) (rd_L5 t230 x8_1).length c240_0) ∧ w'.cell? (ad241.add (x9_3).toNat) = some (.int .i64 (rd (rd_L5 t230 x8_1) x9_3))) (ds := []) #[false,false,false,false,false,false,false,false,false,false,false,false,false,false,false,false,false,false,false,false,false,false,false,false,false] (by kernel_rfl) rfl rfl ⟨((HB.out.cell (World.block_lt_of_cell? w _ hw237_0)).trans hw237_0), ((HB.out.cell (World.block_lt_of_cell? w _ hw237_1)).trans hw237_1), ((HB.out.cell (World.block_lt_of_cell? w _ hw238_0)).trans hw238_0), ((HB.out.cell (World.block_lt_of_cell? w _ hw238_1)).trans hw238_1), hx240_0, hx241_0, hx242_0, hx243_0⟩ (fun hHeld => ?_); refine with_tabW spec_l30Packs.tab12 spec_l30Packs.bits12 (fun HT_ HW_ => ?_)
            generalize wr.drew = w24 at HO_7 BK0 HB HL240_0 HL242_0 HR240_0 HR242_0 hx237_0 hx237_1 hx238_0 hx238_1 hx240_0 hx241_0 hx242_0 hx243_0 hHeld ⊢
            refine puz_ 0 (some 46) #[true,false,false,false,false,false,false,false,false,false,false,false,false,false,false,false,false,false,false,false,false,false,false,false,false] rfl rfl (any_of HT_.out (by kernel_rfl)) ?_
            refine puz_ 1 (some 47) #[true,true,false,false,false,false,false,false,false,false,false,false,false,false,false,false,false,false,false,false,false,false,false,false,false] rfl rfl (any_of HT_.out (by kernel_rfl)) ?_
            refine puz_ 2 (some 48) #[true,true,true,false,false,false,false,false,false,false,false,false,false,false,false,false,false,false,false,false,false,false,false,false,false] rfl rfl (any_of HT_.out (by kernel_rfl)) ?_
            refine puz_ 4 (some 50) #[true,true,true,false,true,false,false,false,false,false,false,false,false,false,false,false,false,false,false,false,false,false,false,false,false] rfl rfl (any_of HT_.out (by kernel_rfl)) ?_
            refine puz_ 5 (some 51) #[true,true,true,false,true,true,false,false,false,false,false,false,false,false,false,false,false,false,false,false,false,false,false,false,false] rfl rfl (any_of HT_.out (by kernel_rfl)) ?_
            refine puz_ 6 (some 52) #[true,true,true,false,true,true,true,false,false,false,false,false,false,false,false,false,false,false,false,false,false,false,false,false,false] rfl rfl (any_of HT_.out (by kernel_rfl)) ?_
            refine puz_ 9 (some 55) #[true,true,true,false,true,true,true,false,false,true,false,false,false,false,false,false,false,false,false,false,false,false,false,false,false] rfl rfl (any_of HT_.out (by kernel_rfl)) ?_
            refine puz_ 10 (some 56) #[true,true,true,false,true,true,true,false,false,true,true,false,false,false,false,false,false,false,false,false,false,false,false,false,false] rfl rfl (any_of HT_.out (by kernel_rfl)) ?_
            refine puz_ 11 (some 57) #[true,true,true,false,true,true,true,false,false,true,true,true,false,false,false,false,false,false,false,false,false,false,false,false,false] rfl rfl (any_of HT_.out (by kernel_rfl)) ?_
            refine puz_ 13 (some 59) #[true,true,true,false,true,true,true,false,false,true,true,true,false,true,false,false,false,false,false,false,false,false,false,false,false] rfl rfl (any_of HT_.out (by kernel_rfl)) ?_
            refine puz_ 16 (some 62) #[true,true,true,false,true,true,true,false,false,true,true,true,false,true,false,false,true,false,false,false,false,false,false,false,false] rfl rfl (any_of HT_.out (by kernel_rfl)) ?_
            refine puz_ 17 (some 63) #[true,true,true,false,true,true,true,false,false,true,true,true,false,true,false,false,true,true,false,false,false,false,false,false,false] rfl rfl (any_of HT_.out (by kernel_rfl)) ?_
            refine puz_ 18 (some 64) #[true,true,true,false,true,true,true,false,false,true,true,true,false,true,false,false,true,true,true,false,false,false,false,false,false] rfl rfl (any_of HT_.out (by kernel_rfl)) ?_
            refine puz_ 20 (some 66) #[true,true,true,false,true,true,true,false,false,true,true,true,false,true,false,false,true,true,true,false,true,false,false,false,false] rfl rfl (any_of HT_.out (by kernel_rfl)) ?_
            refine tkz_ 3 (some 49) #[true,true,true,true,true,true,true,false,false,true,true,true,false,true,false,false,true,true,true,false,true,false,false,false,false] rfl rfl (take_ofW HT_.out HW_.out (by kernel_rfl)) hHeld ?_
            refine tkz_ 7 (some 53) #[true,true,true,true,true,true,true,true,false,true,true,true,false,true,false,false,true,true,true,false,true,false,false,false,false] rfl rfl (take_ofW HT_.out HW_.out (by kernel_rfl)) hHeld ?_
            refine tkz_ 12 (some 58) #[true,true,true,true,true,true,true,true,false,true,true,true,true,true,false,false,true,true,true,false,true,false,false,false,false] rfl rfl (take_ofW HT_.out HW_.out (by kernel_rfl)) hHeld ?_
            refine puz_ 14 (some 60) #[true,true,true,true,true,true,true,true,false,true,true,true,true,true,true,false,true,true,true,false,true,false,false,false,false] rfl rfl (any_of HT_.out (by kernel_rfl)) ?_
            refine tkz_ 15 (some 61) #[true,true,true,true,true,true,true,true,false,true,true,true,true,true,true,true,true,true,true,false,true,false,false,false,false] rfl rfl (take_ofW HT_.out HW_.out (by kernel_rfl)) hHeld ?_
            refine tkz_ 19 (some 65) #[true,true,true,true,true,true,true,true,false,true,true,true,true,true,true,true,true,true,true,true,true,false,false,false,false] rfl rfl (take_ofW HT_.out HW_.out (by kernel_rfl)) hHeld ?_
            refine puz_ 21 (some 67) #[true,true,true,true,true,true,true,true,false,true,true,true,true,true,true,true,true,true,true,true,true,true,false,false,false] rfl rfl (any_of HT_.out (by kernel_rfl)) ?_
            refine tkz_ 22 (some 68) #[true,true,true,true,true,true,true,true,false,true,true,true,true,true,true,true,true,true,true,true,true,true,true,false,false] rfl rfl (take_ofW HT_.out HW_.out (by kernel_rfl)) hHeld ?_
            refine puz_ 23 (some 69) #[true,true,true,true,true,true,true,true,false,true,true,true,true,true,true,true,true,true,true,true,true,true,true,true,false] rfl rfl (any_of HT_.out (by kernel_rfl)) ?_
            refine one_ (i := 8) (N := some 54) #[true,true,true,true,true,true,true,true,true,true,true,true,true,true,true,true,true,true,true,true,true,true,true,true,false] rfl rfl (one_of HT_.out (by kernel_rfl)) (by decide) (fun K hK => ?_)
            refine goes_ Try.func81 (by kernel_rfl) rfl #[.agg #[.int .i64 ((rd_T68 l2 x8_1).f0), .int .i64 ((rd_T68 l2 x8_1).f1)], .agg #[.int .i64 ((rd_T68 l2 x9_3).f0), .int .i64 ((rd_T68 l2 x9_3).f1)]] (by rfl) rfl rfl mp_ ?_
            with_reducible refine (spec_l30Square.calls ((rd_T68 l2 x8_1).f0) ((rd_T68 l2 x8_1).f1) ((rd_T68 l2 x9_3).f0) ((rd_T68 l2 x9_3).f1) t239 _ A20.out).mono ?_
            rintro e w25 ⟨rfl, hb⟩
            have HS4_ := (hb.cell (World.block_lt_of_cell? _ _ (hHeld.2.2.2.2.1))).trans (hHeld.2.2.2.2.1)
            have HS5_ := (hb.cell (World.block_lt_of_cell? _ _ (hHeld.2.2.2.2.2.1))).trans (hHeld.2.2.2.2.2.1)
            have HS6_ := (hb.cell (World.block_lt_of_cell? _ _ (hHeld.2.2.2.2.2.2.1))).trans (hHeld.2.2.2.2.2.2.1)
            have HS7_ := (hb.cell (World.block_lt_of_cell? _ _ (hHeld.2.2.2.2.2.2.2))).trans (hHeld.2.2.2.2.2.2.2)
            refine ⟨_, rfl, ?_⟩
            have n0_ := Aside0.mk (Kd.S_below (by (with_reducible repeat (first | apply Kd.S_alloc | apply Kd.S_drewN | apply Kd.S_drew)); exact HO_7.out) hb)
            have n1_ := Aside0.mk (Kd.R_below (by (with_reducible repeat (first | apply Kd.R_alloc | apply Kd.R_drewN | apply Kd.R_drew)); exact HL240_0.out) hb)
            have n2_ := Aside0.mk (Kd.R_below (by (with_reducible repeat (first | apply Kd.R_alloc | apply Kd.R_drewN | apply Kd.R_drew)); exact HL242_0.out) hb)
            have n3_ := Aside0.mk (blk_below (g := g0) (o := .cells #[.int .i64 a0_0, .slice A0_1 l0_1.length c0_1] 29 (0, 0)) (bk_ BK0.out) hb)
            have n4_ := Aside0.mk (Kd.C_below (by repeat (first | (with_reducible exact HR240_0.out) | (with_reducible refine Kd.C_alloc ?_ _) | (with_reducible refine Kd.C_drewN ?_ _) | (with_reducible refine Kd.C_drew ?_) | exact HR240_0.out)) hb)
            have n5_ := Aside0.mk (Kd.C_below (by repeat (first | (with_reducible exact HR242_0.out) | (with_reducible refine Kd.C_alloc ?_ _) | (with_reducible refine Kd.C_drewN ?_ _) | (with_reducible refine Kd.C_drew ?_) | exact HR242_0.out)) hb)
            have n6_ := Aside0.mk (below_step (bl0_ HB.out) hb)
            clear HO_7
            clear HL240_0
            clear HL242_0
            clear BK0
            clear HR240_0
            clear HR242_0
            clear HB
            have HO_7 := n0_
            have HL240_0 := n1_
            have HL242_0 := n2_
            have BK0 := n3_
            have HR240_0 := n4_
            have HR242_0 := n5_
            have HB := n6_
            clear n0_ n1_ n2_ n3_ n4_ n5_ n6_
            (try clear hb)
            (try clear hb2)
            (try clear hk)
            (try clear hi)
            refine hK.out _ _ ⟨((HB.out.cell (World.block_lt_of_cell? w _ hw237_0)).trans hw237_0), ((HB.out.cell (World.block_lt_of_cell? w _ hw237_1)).trans hw237_1), ((HB.out.cell (World.block_lt_of_cell? w _ hw238_0)).trans hw238_0), ((HB.out.cell (World.block_lt_of_cell? w _ hw238_1)).trans hw238_1), HS4_, HS5_, HS6_, HS7_⟩ (fun hHeld => ?_)
            clear hK K
            refine norm_ (a' := ?_) ?_ ?_
            rotate_left
            ·show Act.put _ (some 54) _ = _
             simp only [Act.put, List.setIfInBounds_toArray, List.set_cons_zero, List.set_cons_succ, i64_w, i32_w]
             rfl
            refine puz_ 24 (some 70) #[true,true,true,true,true,true,true,true,true,true,true,true,true,true,true,true,true,true,true,true,true,true,true,true,true] rfl rfl (any_of HT_.out (by kernel_rfl)) ?_
            refine done_ (done_of HT_.out (by kernel_rfl)) ?_
            try go_wp2
            go_ret
            exact ⟨re_, bl0_ HB.out⟩
           ·rw [if_neg c23] at H
            have c23b0 := decide_eq_false c23
            clear c23
            have H' := Aside0.mk H
            clear H
            try go_wp2
            have n0_ := Aside0.mk (Kd.S_drew HO_7.out)
            have n1_ := Aside0.mk (blk_drew BK0.out)
            have n2_ := Aside0.mk (below_drew1 HB.out)
            clear HO_7
            clear BK0
            clear HB
            have HO_7 := n0_
            have BK0 := n1_
            have HB := n2_
            clear n0_ n1_ n2_
            have p237 : 0 ≤ (x8_1 : Int) := od_
            have q237 : x8_1 < (l2.length : Int) := od_
            obtain ⟨ad237, e237, hx237_0, hx237_1⟩ := at_T68 HR2.out x8_1 p237 q237
            have hw237_1 := hx237_1
            have hw237_0 := hx237_0
            cases e237
            replace hx237_0 := (HB.out.cell (World.block_lt_of_cell? w _ hx237_0)).trans hx237_0
            replace hx237_1 := (HB.out.cell (World.block_lt_of_cell? w _ hx237_1)).trans hx237_1
            replace p237 := eq_true p237
            replace q237 := eq_true q237
            have p238 : 0 ≤ (x9_3 : Int) := od_
            have q238 : x9_3 < (l2.length : Int) := od_
            obtain ⟨ad238, e238, hx238_0, hx238_1⟩ := at_T68 HR2.out x9_3 p238 q238
            have hw238_1 := hx238_1
            have hw238_0 := hx238_0
            obtain rfl : ad237 = ad238 := (by injection e238)
            replace hx238_0 := (HB.out.cell (World.block_lt_of_cell? w _ hx238_0)).trans hx238_0
            replace hx238_1 := (HB.out.cell (World.block_lt_of_cell? w _ hx238_1)).trans hx238_1
            replace p238 := eq_true p238
            replace q238 := eq_true q238
            have p240 : 0 ≤ (x8_1 : Int) := od_
            have q240 : x8_1 < (t230.length : Int) := od_
            obtain ⟨ad240, A240_0, c240_0, e240, hx240_0, hl240_0, hi240_0⟩ := at_L5 (Kd.S_reads' HO_7.out).2.2 x8_1 p240 q240
            cases e240
            obtain ⟨ce240, hce240, hMe240, hcc240⟩ := Kd.S_get HO_7.out [] x8_1 p240 (by first | exact q240 | exact od_ | (have e_ := (Kd.S_reads' HO_7.out).1; omega))
            obtain ⟨ve240_0, rfl, ge240_0⟩ := hMe240
            have hv240_0 := hcc240 0 _ rfl
            rw [Nat.add_zero, show ((Kd.slice 2 (Kd.int .i64))).sz = 1 from rfl, Nat.mul_one] at hv240_0
            replace hv240_0 := Option.some.inj (hv240_0.symm.trans hx240_0)
            rw [hv240_0] at ge240_0
            have HL240_0 := Aside0.mk (show Kd.R (Kd.int .i64) 2 _ _ _ _ (rd_L5 t230 x8_1) from ge240_0)
            clear hv240_0 ge240_0
            clear hcc240 hce240
            have HR240_0 := Aside0.mk hi240_0
            have HC240_0 := Aside0.mk hl240_0
            clear hi240_0 hl240_0
            replace p240 := eq_true p240
            replace q240 := eq_true q240
            have p241 : 0 ≤ (x9_3 : Int) := od_
            have q241 : x9_3 < ((rd_L5 t230 x8_1).length : Int) := od_
            obtain ⟨ad241, e241, hx241_0⟩ := Kd.at_int (by repeat (first | (with_reducible exact HR240_0.out) | (with_reducible refine Kd.C_alloc ?_ _) | (with_reducible refine Kd.C_drewN ?_ _) | (with_reducible refine Kd.C_drew ?_) | exact HR240_0.out)) x9_3 p241 q241
            cases e241
            replace p241 := eq_true p241
            replace q241 := eq_true q241
            have p242 : 0 ≤ (x8_1 : Int) := od_
            have q242 : x8_1 < (t230.length : Int) := od_
            obtain ⟨ad242, A242_0, c242_0, e242, hx242_0, hl242_0, hi242_0⟩ := at_L5 (Kd.S_reads' HO_7.out).2.2 x8_1 p242 q242
            obtain rfl : ad240 = ad242 := (by injection e242)
            obtain ⟨ce242, hce242, hMe242, hcc242⟩ := Kd.S_get HO_7.out [] x8_1 p242 (by first | exact q242 | exact od_ | (have e_ := (Kd.S_reads' HO_7.out).1; omega))
            obtain ⟨ve242_0, rfl, ge242_0⟩ := hMe242
            have hv242_0 := hcc242 0 _ rfl
            rw [Nat.add_zero, show ((Kd.slice 2 (Kd.int .i64))).sz = 1 from rfl, Nat.mul_one] at hv242_0
            replace hv242_0 := Option.some.inj (hv242_0.symm.trans hx242_0)
            rw [hv242_0] at ge242_0
            have HL242_0 := Aside0.mk (show Kd.R (Kd.int .i64) 2 _ _ _ _ (rd_L5 t230 x8_1) from ge242_0)
            clear hv242_0 ge242_0
            clear hcc242 hce242
            have HR242_0 := Aside0.mk hi242_0
            have HC242_0 := Aside0.mk hl242_0
            clear hi242_0 hl242_0
            replace p242 := eq_true p242
            replace q242 := eq_true q242
            have ea_ := Option.some.inj (hx240_0.symm.trans hx242_0)
            injection ea_ with ea_ en_ ec_
            subst ea_
            subst ec_
            clear en_
            have p243 : 0 ≤ (x9_3 : Int) := od_
            have q243 : x9_3 < ((rd_L5 t230 x8_1).length : Int) := od_
            obtain ⟨ad241, e243, hx243_0⟩ := Kd.at_int (by repeat (first | (with_reducible exact HR242_0.out) | (with_reducible refine Kd.C_alloc ?_ _) | (with_reducible refine Kd.C_drewN ?_ _) | (with_reducible refine Kd.C_drew ?_) | exact HR242_0.out)) x9_3 p243 q243
            cases e243
            replace p243 := eq_true p243
            replace q243 := eq_true q243
            refine start_ (n := 25) (S := fun w' => w'.cell? (ad237.add ((x8_1).toNat * 2)) = some (.int .i64 ((rd_T68 l2 x8_1).f0)) ∧ w'.cell? ⟨(ad237.add ((x8_1).toNat * 2)).block, (ad237.add ((x8_1).toNat * 2)).off + 1, none⟩ = some (.int .i64 ((rd_T68 l2 x8_1).f1)) ∧ w'.cell? (ad237.add ((x9_3).toNat * 2)) = some (.int .i64 ((rd_T68 l2 x9_3).f0)) ∧ w'.cell? ⟨(ad237.add ((x9_3).toNat * 2)).block, (ad237.add ((x9_3).toNat * 2)).off + 1, none⟩ = some (.int .i64 ((rd_T68 l2 x9_3).f1)) ∧ w'.cell? (ad240.add (x8_1).toNat) = some (.slice (some ad241) (rd_L5 t230 x8_1).length c240_0) ∧ w'.cell? (ad241.add (x9_3).toNat) = some (.int .i64 (rd (rd_L5 t230 x8_1) x9_3)) ∧ w'.cell? (ad240.add (x8_1).toNat) = some (.slice (some ad241) (rd_L5 t230 x8_1).length c240_0) ∧ w'.cell? (ad241.add (x9_3).toNat) = some (.int .i64 (rd (rd_L5 t230 x8_1) x9_3))) (ds := []) #[false,false,false,false,false,false,false,false,false,false,false,false,false,false,false,false,false,false,false,false,false,false,false,false,false] (by kernel_rfl) rfl rfl ⟨((HB.out.cell (World.block_lt_of_cell? w _ hw237_0)).trans hw237_0), ((HB.out.cell (World.block_lt_of_cell? w _ hw237_1)).trans hw237_1), ((HB.out.cell (World.block_lt_of_cell? w _ hw238_0)).trans hw238_0), ((HB.out.cell (World.block_lt_of_cell? w _ hw238_1)).trans hw238_1), hx240_0, hx241_0, hx242_0, hx243_0⟩ (fun hHeld => ?_); refine with_tabW spec_l30Packs.tab12 spec_l30Packs.bits12 (fun HT_ HW_ => ?_)
            generalize wr.drew = w26 at HO_7 BK0 HB HL240_0 HL242_0 HR240_0 HR242_0 hx237_0 hx237_1 hx238_0 hx238_1 hx240_0 hx241_0 hx242_0 hx243_0 hHeld ⊢
            refine puz_ 0 (some 46) #[true,false,false,false,false,false,false,false,false,false,false,false,false,false,false,false,false,false,false,false,false,false,false,false,false] rfl rfl (any_of HT_.out (by kernel_rfl)) ?_
            refine puz_ 1 (some 47) #[true,true,false,false,false,false,false,false,false,false,false,false,false,false,false,false,false,false,false,false,false,false,false,false,false] rfl rfl (any_of HT_.out (by kernel_rfl)) ?_
            refine puz_ 2 (some 48) #[true,true,true,false,false,false,false,false,false,false,false,false,false,false,false,false,false,false,false,false,false,false,false,false,false] rfl rfl (any_of HT_.out (by kernel_rfl)) ?_
            refine puz_ 4 (some 50) #[true,true,true,false,true,false,false,false,false,false,false,false,false,false,false,false,false,false,false,false,false,false,false,false,false] rfl rfl (any_of HT_.out (by kernel_rfl)) ?_
            refine puz_ 5 (some 51) #[true,true,true,false,true,true,false,false,false,false,false,false,false,false,false,false,false,false,false,false,false,false,false,false,false] rfl rfl (any_of HT_.out (by kernel_rfl)) ?_
            refine puz_ 6 (some 52) #[true,true,true,false,true,true,true,false,false,false,false,false,false,false,false,false,false,false,false,false,false,false,false,false,false] rfl rfl (any_of HT_.out (by kernel_rfl)) ?_
            refine puz_ 9 (some 55) #[true,true,true,false,true,true,true,false,false,true,false,false,false,false,false,false,false,false,false,false,false,false,false,false,false] rfl rfl (any_of HT_.out (by kernel_rfl)) ?_
            refine puz_ 10 (some 56) #[true,true,true,false,true,true,true,false,false,true,true,false,false,false,false,false,false,false,false,false,false,false,false,false,false] rfl rfl (any_of HT_.out (by kernel_rfl)) ?_
            refine puz_ 11 (some 57) #[true,true,true,false,true,true,true,false,false,true,true,true,false,false,false,false,false,false,false,false,false,false,false,false,false] rfl rfl (any_of HT_.out (by kernel_rfl)) ?_
            refine puz_ 13 (some 59) #[true,true,true,false,true,true,true,false,false,true,true,true,false,true,false,false,false,false,false,false,false,false,false,false,false] rfl rfl (any_of HT_.out (by kernel_rfl)) ?_
            refine puz_ 16 (some 62) #[true,true,true,false,true,true,true,false,false,true,true,true,false,true,false,false,true,false,false,false,false,false,false,false,false] rfl rfl (any_of HT_.out (by kernel_rfl)) ?_
            refine puz_ 17 (some 63) #[true,true,true,false,true,true,true,false,false,true,true,true,false,true,false,false,true,true,false,false,false,false,false,false,false] rfl rfl (any_of HT_.out (by kernel_rfl)) ?_
            refine puz_ 18 (some 64) #[true,true,true,false,true,true,true,false,false,true,true,true,false,true,false,false,true,true,true,false,false,false,false,false,false] rfl rfl (any_of HT_.out (by kernel_rfl)) ?_
            refine puz_ 20 (some 66) #[true,true,true,false,true,true,true,false,false,true,true,true,false,true,false,false,true,true,true,false,true,false,false,false,false] rfl rfl (any_of HT_.out (by kernel_rfl)) ?_
            refine tkz_ 3 (some 49) #[true,true,true,true,true,true,true,false,false,true,true,true,false,true,false,false,true,true,true,false,true,false,false,false,false] rfl rfl (take_ofW HT_.out HW_.out (by kernel_rfl)) hHeld ?_
            refine tkz_ 7 (some 53) #[true,true,true,true,true,true,true,true,false,true,true,true,false,true,false,false,true,true,true,false,true,false,false,false,false] rfl rfl (take_ofW HT_.out HW_.out (by kernel_rfl)) hHeld ?_
            refine tkz_ 12 (some 58) #[true,true,true,true,true,true,true,true,false,true,true,true,true,true,false,false,true,true,true,false,true,false,false,false,false] rfl rfl (take_ofW HT_.out HW_.out (by kernel_rfl)) hHeld ?_
            refine puz_ 14 (some 60) #[true,true,true,true,true,true,true,true,false,true,true,true,true,true,true,false,true,true,true,false,true,false,false,false,false] rfl rfl (any_of HT_.out (by kernel_rfl)) ?_
            refine tkz_ 15 (some 61) #[true,true,true,true,true,true,true,true,false,true,true,true,true,true,true,true,true,true,true,false,true,false,false,false,false] rfl rfl (take_ofW HT_.out HW_.out (by kernel_rfl)) hHeld ?_
            refine tkz_ 19 (some 65) #[true,true,true,true,true,true,true,true,false,true,true,true,true,true,true,true,true,true,true,true,true,false,false,false,false] rfl rfl (take_ofW HT_.out HW_.out (by kernel_rfl)) hHeld ?_
            refine puz_ 21 (some 67) #[true,true,true,true,true,true,true,true,false,true,true,true,true,true,true,true,true,true,true,true,true,true,false,false,false] rfl rfl (any_of HT_.out (by kernel_rfl)) ?_
            refine tkz_ 22 (some 68) #[true,true,true,true,true,true,true,true,false,true,true,true,true,true,true,true,true,true,true,true,true,true,true,false,false] rfl rfl (take_ofW HT_.out HW_.out (by kernel_rfl)) hHeld ?_
            refine puz_ 23 (some 69) #[true,true,true,true,true,true,true,true,false,true,true,true,true,true,true,true,true,true,true,true,true,true,true,true,false] rfl rfl (any_of HT_.out (by kernel_rfl)) ?_
            refine one_ (i := 8) (N := some 54) #[true,true,true,true,true,true,true,true,true,true,true,true,true,true,true,true,true,true,true,true,true,true,true,true,false] rfl rfl (one_of HT_.out (by kernel_rfl)) (by decide) (fun K hK => ?_)
            refine goes_ Try.func81 (by kernel_rfl) rfl #[.agg #[.int .i64 ((rd_T68 l2 x8_1).f0), .int .i64 ((rd_T68 l2 x8_1).f1)], .agg #[.int .i64 ((rd_T68 l2 x9_3).f0), .int .i64 ((rd_T68 l2 x9_3).f1)]] (by rfl) rfl rfl mp_ ?_
            with_reducible refine (spec_l30Square.calls ((rd_T68 l2 x8_1).f0) ((rd_T68 l2 x8_1).f1) ((rd_T68 l2 x9_3).f0) ((rd_T68 l2 x9_3).f1) t239 _ A20.out).mono ?_
            rintro e w27 ⟨rfl, hb⟩
            have HS4_ := (hb.cell (World.block_lt_of_cell? _ _ (hHeld.2.2.2.2.1))).trans (hHeld.2.2.2.2.1)
            have HS5_ := (hb.cell (World.block_lt_of_cell? _ _ (hHeld.2.2.2.2.2.1))).trans (hHeld.2.2.2.2.2.1)
            have HS6_ := (hb.cell (World.block_lt_of_cell? _ _ (hHeld.2.2.2.2.2.2.1))).trans (hHeld.2.2.2.2.2.2.1)
            have HS7_ := (hb.cell (World.block_lt_of_cell? _ _ (hHeld.2.2.2.2.2.2.2))).trans (hHeld.2.2.2.2.2.2.2)
            refine ⟨_, rfl, ?_⟩
            have n0_ := Aside0.mk (Kd.S_below (by (with_reducible repeat (first | apply Kd.S_alloc | apply Kd.S_drewN | apply Kd.S_drew)); exact HO_7.out) hb)
            have n1_ := Aside0.mk (Kd.R_below (by (with_reducible repeat (first | apply Kd.R_alloc | apply Kd.R_drewN | apply Kd.R_drew)); exact HL240_0.out) hb)
            have n2_ := Aside0.mk (Kd.R_below (by (with_reducible repeat (first | apply Kd.R_alloc | apply Kd.R_drewN | apply Kd.R_drew)); exact HL242_0.out) hb)
            have n3_ := Aside0.mk (blk_below (g := g0) (o := .cells #[.int .i64 a0_0, .slice A0_1 l0_1.length c0_1] 29 (0, 0)) (bk_ BK0.out) hb)
            have n4_ := Aside0.mk (Kd.C_below (by repeat (first | (with_reducible exact HR240_0.out) | (with_reducible refine Kd.C_alloc ?_ _) | (with_reducible refine Kd.C_drewN ?_ _) | (with_reducible refine Kd.C_drew ?_) | exact HR240_0.out)) hb)
            have n5_ := Aside0.mk (Kd.C_below (by repeat (first | (with_reducible exact HR242_0.out) | (with_reducible refine Kd.C_alloc ?_ _) | (with_reducible refine Kd.C_drewN ?_ _) | (with_reducible refine Kd.C_drew ?_) | exact HR242_0.out)) hb)
            have n6_ := Aside0.mk (below_step (bl0_ HB.out) hb)
            clear HO_7
            clear HL240_0
            clear HL242_0
            clear BK0
            clear HR240_0
            clear HR242_0
            clear HB
            have HO_7 := n0_
            have HL240_0 := n1_
            have HL242_0 := n2_
            have BK0 := n3_
            have HR240_0 := n4_
            have HR242_0 := n5_
            have HB := n6_
            clear n0_ n1_ n2_ n3_ n4_ n5_ n6_
            (try clear hb)
            (try clear hb2)
            (try clear hk)
            (try clear hi)
            refine hK.out _ _ ⟨((HB.out.cell (World.block_lt_of_cell? w _ hw237_0)).trans hw237_0), ((HB.out.cell (World.block_lt_of_cell? w _ hw237_1)).trans hw237_1), ((HB.out.cell (World.block_lt_of_cell? w _ hw238_0)).trans hw238_0), ((HB.out.cell (World.block_lt_of_cell? w _ hw238_1)).trans hw238_1), HS4_, HS5_, HS6_, HS7_⟩ (fun hHeld => ?_)
            clear hK K
            refine norm_ (a' := ?_) ?_ ?_
            rotate_left
            ·show Act.put _ (some 54) _ = _
             simp only [Act.put, List.setIfInBounds_toArray, List.set_cons_zero, List.set_cons_succ, i64_w, i32_w]
             rfl
            refine puz_ 24 (some 70) #[true,true,true,true,true,true,true,true,true,true,true,true,true,true,true,true,true,true,true,true,true,true,true,true,true] rfl rfl (any_of HT_.out (by kernel_rfl)) ?_
            refine done_ (done_of HT_.out (by kernel_rfl)) ?_
            try go_wp2
            go_roundg k3
            case measure => have := HK1.out; have := HJ8.out; have := HK3.out; omega
            case rel => exact ⟨(wrap64 (x9_3 + 1)), rs_, H', ⟨by have := HK1.out; have := HJ8.out; have := HK3.out; omega⟩, ⟨by (with_reducible repeat (first | apply Kd.S_alloc | apply Kd.S_drewN | apply Kd.S_drew)); exact HO_7.out⟩, ⟨bk_ BK0.out⟩, ⟨bl0_ HB.out⟩⟩
          ·rw [if_neg c15] at H
           have c15b0 := decide_eq_false c15
           clear c15
           have H' := Aside0.mk H
           clear H
           go_wp2
           go_roundg k3
           case measure => have := HK1.out; have := HJ8.out; have := HK3.out; omega
           case rel => exact ⟨(wrap64 (x8_1 + 1)), rs_, H', ⟨by have := HK1.out; have := HJ8.out; have := HK3.out; omega⟩, ⟨by (with_reducible repeat (first | apply Kd.S_alloc | apply Kd.S_drewN | apply Kd.S_drew)); exact HO_7.out⟩, ⟨bk_ BK0.out⟩, ⟨bl0_ HB.out⟩⟩
    ·rw [if_neg c8] at H
     have c8b0 := decide_eq_false c8
     clear c8
     obtain rfl := Option.some.inj H
     go_wp2
     go_ret
     exact ⟨re_, bl0_ HB.out⟩
 ·rw [if_neg c5] at H
  have c5b0 : ((l2.length : Int) == (t230.length : Int)) = false := beq_eq_false_iff_ne.mpr c5
  have c5b1 : ((l2.length : Int) != (t230.length : Int)) = true := bne_iff_ne.mpr c5
  have c5b2 : (l2.length == t230.length) = false := by first | simpa using c5 | (simp at c5 ⊢; omega)
  obtain rfl := Option.some.inj H
  go_enter Try.func73, Try.ntmps73
  go_wp2_with (first | ((with_reducible refine gate_callee (f := 70) rfl ?_); refine goesL_ (some 11) rfl rfl Try.func70 (by kernel_rfl) rfl #[.pointer (some ⟨g0, 0, none⟩)] rfl mp_ ?_; (with_reducible refine (spec_l30Distances.calls k g0 a0_0 A0_1 c0_1 l0_1 t230 _ ?side1 ?side2 ?side3 A4.out).mono ?_); (case side1 => exact by (with_reducible repeat (first | refine blk_drewN ?_ _ | refine blk_drew ?_ | refine blk_alloc ?_ _)); exact BK0.out); (case side2 => repeat (first | exact HR0_1.out | (with_reducible refine Kd.C_alloc ?_ _) | (with_reducible refine Kd.C_drewN ?_ _) | (with_reducible refine Kd.C_drew ?_))); (case side3 => exact HC0_1.out); rintro e w28 ⟨v231, rfl, ho0, hb⟩; refine ⟨_, rfl, ?_⟩; have n0_ := Aside0.mk (Kd.S_lower ho0 (below_size (bl0_ HB.out))); have n1_ := Aside0.mk (blk_below (g := g0) (o := .cells #[.int .i64 a0_0, .slice A0_1 l0_1.length c0_1] 29 (0, 0)) (bk_ BK0.out) hb); have n2_ := Aside0.mk (below_step (bl0_ HB.out) hb); clear BK0; clear HB; have HO232 := n0_; have BK0 := n1_; have HB := n2_; clear n0_ n1_ n2_; (try clear hb); (try clear hb2); (try clear hk); (try clear hi); (try clear ho0); obtain ⟨Ao29, co29, eo29⟩ := Kd.S_slice HO232.out; subst eo29))
  go_ret
  exact ⟨re_, bl0_ HB.out⟩

/-! ### spec_ValidPacking: function 37 -/
def spec_ValidPacking.f (k : Nat) (a0_0 : Int) (l0_1 : List (S71)) (a1 : Int) (l2 : List (S68)) : Option (Bool) := (spec_l30Ok.f k a0_0 l0_1).bind fun t245 => (if t245 = true then ((spec_l00In.f a1 1 40).bind fun t246 => (if t246 = true then ((spec_l30Packs.f k a0_0 l0_1 a1 l2).bind fun t247 => (some t247)) else (some false))) else (some false))
theorem spec_ValidPacking.mono : ∀ a0 a1 a2 a3 k, LeO (spec_ValidPacking.f k a0 a1 a2 a3) (spec_ValidPacking.f (k + 1) a0 a1 a2 a3) := by
 intro a0 a1 a2 a3 k
 unfold spec_ValidPacking.f
 repeat' first
   | (with_reducible exact spec_l30Ok.mono _ _ _)
   | (with_reducible exact spec_l30Packs.mono _ _ _ _ _)
   | (with_reducible exact LeO.refl _)
   | (with_reducible exact LeO.none _)
   | (with_reducible refine LeO.ite ?_ ?_)
   | (with_reducible refine LeO.bind ?_ (fun _ => ?_))
   | exact spec_l30Ok.mono _ _ _
   | exact spec_l30Packs.mono _ _ _ _ _
   | exact LeO.none _
   | refine LeO.ite ?_ ?_
   | refine LeO.bind ?_ (fun _ => ?_)
set_option maxHeartbeats 8000000 in
set_option maxRecDepth 100000 in
theorem spec_ValidPacking.calls (k : Nat) (a0_0 : Int) (A0_1 : Option Addr) (c0_1 : Nat) (l0_1 : List (S71)) (a1 : Int) (A2 : Option Addr) (c2 : Nat) (l2 : List (S68)) (r : Bool) (w : World) (hr0_1 : Kd.C k71 w A0_1 l0_1.length l0_1) (hc0_1 : l0_1.length ≤ c0_1) (hr2 : Kd.C k68 w A2 l2.length l2) (hc2 : l2.length ≤ c2) (h : spec_ValidPacking.f k a0_0 l0_1 a1 l2 = some r) :
  Calls Try.prog 37 #[.agg #[.int .i64 a0_0, .slice A0_1 l0_1.length c0_1], .int .i64 a1, .slice A2 l2.length c2] w fun e w' => e = .returned (.bool r) ∧ Below w.heap.size w w' := by
 have hu29 := Try.underlying29
 have HR0_1 := Aside0.mk hr0_1
 have HC0_1 := Aside0.mk hc0_1
 clear hr0_1 hc0_1
 have HR2 := Aside0.mk hr2
 have HC2 := Aside0.mk hc2
 clear hr2 hc2
 have HB := Aside0.mk (Below.refl w.heap.size w)
 have H : ((spec_l30Ok.f k a0_0 l0_1).bind fun t245 => (if t245 = true then ((spec_l00In.f a1 1 40).bind fun t246 => (if t246 = true then ((spec_l30Packs.f k a0_0 l0_1 a1 l2).bind fun t247 => (some t247)) else (some false))) else (some false))) = some r := h
 clear h
 replace H := Option.bind_eq_some_iff.mp H
 obtain ⟨t245, A40, H⟩ := H
 replace H : (if t245 = true then ((spec_l00In.f a1 1 40).bind fun t246 => (if t246 = true then ((spec_l30Packs.f k a0_0 l0_1 a1 l2).bind fun t247 => (some t247)) else (some false))) else (some false)) = some r := H
 have A4 := Aside0.mk A40
 clear A40
 by_cases c5 : t245 = true
 ·subst c5
  have H1 : ((spec_l00In.f a1 1 40).bind fun t246 => (if t246 = true then ((spec_l30Packs.f k a0_0 l0_1 a1 l2).bind fun t247 => (some t247)) else (some false))) = some r := by rw [if_pos rfl] at H; exact H
  clear H
  have H := H1
  clear H1
  replace H := Option.bind_eq_some_iff.mp H
  obtain ⟨t246, A60, H⟩ := H
  replace H : (if t246 = true then ((spec_l30Packs.f k a0_0 l0_1 a1 l2).bind fun t247 => (some t247)) else (some false)) = some r := H
  have A6 := Aside0.mk A60
  clear A60
  by_cases c7 : t246 = true
  ·subst c7
   have H1 : ((spec_l30Packs.f k a0_0 l0_1 a1 l2).bind fun t247 => (some t247)) = some r := by rw [if_pos rfl] at H; exact H
   clear H
   have H := H1
   clear H1
   replace H := Option.bind_eq_some_iff.mp H
   obtain ⟨t247, A80, H⟩ := H
   replace H : (some t247) = some r := H
   have A8 := Aside0.mk A80
   clear A80
   obtain rfl := Option.some.inj H
   go_enter Try.func37, Try.ntmps37
   go_wp2_with (first | ((with_reducible refine gate_dst (N := 3) rfl ?_); refine box_event ?hg (N := 3) ?hd (cs := #[.int .i64 a0_0, .slice A0_1 l0_1.length c0_1]) (t := 29) ?hr ?_; (case hd => rfl); (case hg => rfl); (case hr => first | (go_simp; done) | (go_simp; rfl)); intro gb244 hg w9 hbox hb; have n0_ := Aside0.mk (below_step (bl0_ HB.out) hb); have n1_ := Aside0.mk (hbox); have n2_ := Aside0.mk ((by rw [hg]; exact (below_size (bl0_ HB.out)) : w.heap.size ≤ gb244)); have n3_ := Aside0.mk ((by rw [hg]; exact (below_size (bl0_ HB.out)) : w.heap.size ≤ gb244)); clear HB; have HB := n0_; have BK244 := n1_; have GW244 := n2_; have GE244 := n3_; clear n0_ n1_ n2_ n3_; clear hb hbox hg) | ((with_reducible refine gate_callee (f := 59) rfl ?_); refine goesL_ (some 7) rfl rfl Try.func59 (by kernel_rfl) rfl #[.pointer (some ⟨gb244, 0, none⟩)] rfl mp_ ?_; (with_reducible refine (spec_l30Ok.calls k gb244 a0_0 A0_1 c0_1 l0_1 true _ ?side1 ?side2 ?side3 A4.out).mono ?_); (case side1 => exact by (with_reducible repeat (first | refine blk_drewN ?_ _ | refine blk_drew ?_ | refine blk_alloc ?_ _)); exact BK244.out); (case side2 => exact ca_ (Kd.C_below HR0_1.out HB.out)); (case side3 => exact HC0_1.out); rintro e w10 ⟨rfl, hb⟩; refine ⟨_, rfl, ?_⟩; have n0_ := Aside0.mk (blk_below (g := gb244) (o := .cells #[.int .i64 a0_0, .slice A0_1 l0_1.length c0_1] 29 (0, 0)) (bk_ BK244.out) hb); have n1_ := Aside0.mk (below_step (bl1_ HB.out GE244.out) hb); clear BK244; clear HB; have BK244 := n0_; have HB := n1_; clear n0_ n1_; (try clear hb); (try clear hb2); (try clear hk); (try clear hi)) | (go_at_call 72; (with_reducible refine (spec_l00In.calls a1 1 40 true _ A6.out).mono ?_); rintro e w' ⟨rfl, ⟨nd, rfl⟩⟩) | (go_at_call 73; (with_reducible refine (spec_l30Packs.calls k gb244 a0_0 A0_1 c0_1 l0_1 a1 _ _ l2 t247 _ ?side1 ?side2 ?side3 ?side4 ?side5 A8.out).mono ?_); (case side1 => exact by (with_reducible repeat (first | refine blk_drewN ?_ _ | refine blk_drew ?_ | refine blk_alloc ?_ _)); exact BK244.out); (case side2 => exact ca_ (Kd.C_below HR0_1.out (bl1_ HB.out GE244.out))); (case side3 => exact HC0_1.out); (case side4 => exact ca_ (Kd.C_below HR2.out (bl1_ HB.out GE244.out))); (case side5 => exact HC2.out); rintro e w11 ⟨rfl, hb⟩; have n0_ := Aside0.mk (blk_below (g := gb244) (o := .cells #[.int .i64 a0_0, .slice A0_1 l0_1.length c0_1] 29 (0, 0)) (bk_ BK244.out) hb); have n1_ := Aside0.mk (below_step (bl1_ HB.out GE244.out) hb); clear BK244; clear HB; have BK244 := n0_; have HB := n1_; clear n0_ n1_; (try clear hb); (try clear hb2); (try clear hk); (try clear hi)))
   go_ret
   exact ⟨re_, bl1_ HB.out GE244.out⟩
  ·replace c7 := Bool.eq_false_iff.mpr c7
   subst c7
   have H1 : (some false) = some r := by rw [if_neg (show ¬ (false = true) by decide)] at H; exact H
   clear H
   have H := H1
   clear H1
   obtain rfl := Option.some.inj H
   go_enter Try.func37, Try.ntmps37
   go_wp2_with (first | ((with_reducible refine gate_dst (N := 3) rfl ?_); refine box_event ?hg (N := 3) ?hd (cs := #[.int .i64 a0_0, .slice A0_1 l0_1.length c0_1]) (t := 29) ?hr ?_; (case hd => rfl); (case hg => rfl); (case hr => first | (go_simp; done) | (go_simp; rfl)); intro gb244 hg w12 hbox hb; have n0_ := Aside0.mk (below_step (bl0_ HB.out) hb); have n1_ := Aside0.mk (hbox); have n2_ := Aside0.mk ((by rw [hg]; exact (below_size (bl0_ HB.out)) : w.heap.size ≤ gb244)); have n3_ := Aside0.mk ((by rw [hg]; exact (below_size (bl0_ HB.out)) : w.heap.size ≤ gb244)); clear HB; have HB := n0_; have BK244 := n1_; have GW244 := n2_; have GE244 := n3_; clear n0_ n1_ n2_ n3_; clear hb hbox hg) | ((with_reducible refine gate_callee (f := 59) rfl ?_); refine goesL_ (some 7) rfl rfl Try.func59 (by kernel_rfl) rfl #[.pointer (some ⟨gb244, 0, none⟩)] rfl mp_ ?_; (with_reducible refine (spec_l30Ok.calls k gb244 a0_0 A0_1 c0_1 l0_1 true _ ?side1 ?side2 ?side3 A4.out).mono ?_); (case side1 => exact by (with_reducible repeat (first | refine blk_drewN ?_ _ | refine blk_drew ?_ | refine blk_alloc ?_ _)); exact BK244.out); (case side2 => exact ca_ (Kd.C_below HR0_1.out HB.out)); (case side3 => exact HC0_1.out); rintro e w13 ⟨rfl, hb⟩; refine ⟨_, rfl, ?_⟩; have n0_ := Aside0.mk (blk_below (g := gb244) (o := .cells #[.int .i64 a0_0, .slice A0_1 l0_1.length c0_1] 29 (0, 0)) (bk_ BK244.out) hb); have n1_ := Aside0.mk (below_step (bl1_ HB.out GE244.out) hb); clear BK244; clear HB; have BK244 := n0_; have HB := n1_; clear n0_ n1_; (try clear hb); (try clear hb2); (try clear hk); (try clear hi)) | (go_at_call 72; (with_reducible refine (spec_l00In.calls a1 1 40 false _ A6.out).mono ?_); rintro e w' ⟨rfl, ⟨nd, rfl⟩⟩))
   go_ret
   exact ⟨re_, bl1_ HB.out GE244.out⟩
 ·replace c5 := Bool.eq_false_iff.mpr c5
  subst c5
  have H1 : (some false) = some r := by rw [if_neg (show ¬ (false = true) by decide)] at H; exact H
  clear H
  have H := H1
  clear H1
  obtain rfl := Option.some.inj H
  go_enter Try.func37, Try.ntmps37
  go_wp2_with (first | ((with_reducible refine gate_dst (N := 3) rfl ?_); refine box_event ?hg (N := 3) ?hd (cs := #[.int .i64 a0_0, .slice A0_1 l0_1.length c0_1]) (t := 29) ?hr ?_; (case hd => rfl); (case hg => rfl); (case hr => first | (go_simp; done) | (go_simp; rfl)); intro gb244 hg w14 hbox hb; have n0_ := Aside0.mk (below_step (bl0_ HB.out) hb); have n1_ := Aside0.mk (hbox); have n2_ := Aside0.mk ((by rw [hg]; exact (below_size (bl0_ HB.out)) : w.heap.size ≤ gb244)); have n3_ := Aside0.mk ((by rw [hg]; exact (below_size (bl0_ HB.out)) : w.heap.size ≤ gb244)); clear HB; have HB := n0_; have BK244 := n1_; have GW244 := n2_; have GE244 := n3_; clear n0_ n1_ n2_ n3_; clear hb hbox hg) | ((with_reducible refine gate_callee (f := 59) rfl ?_); refine goesL_ (some 7) rfl rfl Try.func59 (by kernel_rfl) rfl #[.pointer (some ⟨gb244, 0, none⟩)] rfl mp_ ?_; (with_reducible refine (spec_l30Ok.calls k gb244 a0_0 A0_1 c0_1 l0_1 false _ ?side1 ?side2 ?side3 A4.out).mono ?_); (case side1 => exact by (with_reducible repeat (first | refine blk_drewN ?_ _ | refine blk_drew ?_ | refine blk_alloc ?_ _)); exact BK244.out); (case side2 => exact ca_ (Kd.C_below HR0_1.out HB.out)); (case side3 => exact HC0_1.out); rintro e w15 ⟨rfl, hb⟩; refine ⟨_, rfl, ?_⟩; have n0_ := Aside0.mk (blk_below (g := gb244) (o := .cells #[.int .i64 a0_0, .slice A0_1 l0_1.length c0_1] 29 (0, 0)) (bk_ BK244.out) hb); have n1_ := Aside0.mk (below_step (bl1_ HB.out GE244.out) hb); clear BK244; clear HB; have BK244 := n0_; have HB := n1_; clear n0_ n1_; (try clear hb); (try clear hb2); (try clear hk); (try clear hi)))
  go_ret
  exact ⟨re_, bl1_ HB.out GE244.out⟩

end Go.Proofs.Ytnbhnkpefhdgjaa.I
