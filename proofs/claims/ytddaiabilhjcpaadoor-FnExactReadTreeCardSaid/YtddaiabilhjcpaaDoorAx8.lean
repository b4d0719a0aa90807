/- For functions of the translation: a Lean function each, and that the call of the Go function comes to its answer. Written by this session's own program (myprint.py, over the kit's printer). -/
import Derived.Test.YtddaiabilhjcpaaDoorAx0
import Derived.Test.YtddaiabilhjcpaaDoorAx6
import Derived.Test.YtddaiabilhjcpaaDoorAx7
--compacted
namespace Go.Proofs.YtddaiabilhjcpaaDoor.A
open Go.RowKit Go.Proofs.YtddaiabilhjcpaaDoorW.PrintWords Go.Proofs.YtddaiabilhjcpaaDoorW.PrintLast Go.Proofs.YtddaiabilhjcpaaDoorW.PrintMore
attribute [local go_sem] max2_int min2_int max_two min_two max_three min_three max_four min_four   -- for this text's walks alone
set_option linter.unusedVariables false
set_option linter.unusedSimpArgs false

/-! ### spec_l30Ok: function 47 -/
mutual
def spec_l30Ok.j0 : Nat → Bool → Int → List (S52) → Option (Bool)
 | 0, _, _, _ => none
 | k + 1, x24, x1000, x1001 => if x24 = true then (some false) else (spec_l30Ok.l0 k 0 x1000 x1001)
def spec_l30Ok.l0 : Nat → Int → Int → List (S52) → Option (Bool)
 | 0, _, _, _ => none
 | k + 1, x3, x1000, x1001 => if x3 < (x1001.length : Int) then (if 0 ≤ x3 then ((spec_l30Edge.f ((rd_T52 x1001 x3).f0) ((rd_T52 x1001 x3).f1) ((rd_T52 x1001 x3).f2) x1000).bind fun t245 => (if t245 = true then (if x3 > 0 then (if 0 ≤ (wrap64 (x3 - 1)) then (if (wrap64 (x3 - 1)) < (x1001.length : Int) then ((spec_l30Less.f ((rd_T52 x1001 (wrap64 (x3 - 1))).f0) ((rd_T52 x1001 (wrap64 (x3 - 1))).f1) ((rd_T52 x1001 (wrap64 (x3 - 1))).f2) ((rd_T52 x1001 x3).f0) ((rd_T52 x1001 x3).f1) ((rd_T52 x1001 x3).f2)).bind fun t248 => (if t248 = true then (spec_l30Ok.l0 k (wrap64 (x3 + 1)) x1000 x1001) else (some false))) else (none)) else (none)) else (spec_l30Ok.l0 k (wrap64 (x3 + 1)) x1000 x1001)) else (some false))) else (none)) else ((spec_l30Reach.f k x1000 x1001 0).bind fun bt237 => ((spec_l00Has.f k bt237.1 (-1)).bind fun t243 => (some (!t243))))
end
def spec_l30Ok.f (k : Nat) (a0_0 : Int) (l0_1 : List (S52)) : Option (Bool) := (spec_l00In.f a0_0 2 16).bind fun t236 => (if t236 = true then (spec_l30Ok.j0 k ((l0_1.length : Int) != (wrap64 (a0_0 - 1))) a0_0 l0_1) else (spec_l30Ok.j0 k true a0_0 l0_1))
theorem spec_l30Ok.mono_l : ∀ k, (∀ y0 y1 y2, LeO (spec_l30Ok.j0 k y0 y1 y2) (spec_l30Ok.j0 (k + 1) y0 y1 y2)) ∧ (∀ y0 y1 y2, LeO (spec_l30Ok.l0 k y0 y1 y2) (spec_l30Ok.l0 (k + 1) y0 y1 y2))
 | 0 => ⟨fun _ _ _ r h => by simp [spec_l30Ok.j0] at h, fun _ _ _ r h => by simp [spec_l30Ok.l0] at h⟩
 | k + 1 => by
  obtain ⟨ih0, ih1⟩ := spec_l30Ok.mono_l k
  refine ⟨?_, ?_⟩
  ·intro y0 y1 y2
   unfold spec_l30Ok.j0
   repeat' first
   | (with_reducible exact ih0 _ _ _)
   | (with_reducible exact ih1 _ _ _)
   | (with_reducible exact spec_l00Has.mono _ _ _)
   | (with_reducible exact spec_l30Reach.mono _ _ _ _)
   | (with_reducible exact LeO.refl _)
   | (with_reducible exact LeO.none _)
   | (with_reducible refine LeO.ite ?_ ?_)
   | (with_reducible refine LeO.bind ?_ (fun _ => ?_))
   | exact spec_l00Has.mono _ _ _
   | exact spec_l30Reach.mono _ _ _ _
   | exact LeO.none _
   | refine LeO.ite ?_ ?_
   | refine LeO.bind ?_ (fun _ => ?_)
  ·intro y0 y1 y2
   unfold spec_l30Ok.l0
   repeat' first
   | (with_reducible exact ih0 _ _ _)
   | (with_reducible exact ih1 _ _ _)
   | (with_reducible exact spec_l00Has.mono _ _ _)
   | (with_reducible exact spec_l30Reach.mono _ _ _ _)
   | (with_reducible exact LeO.refl _)
   | (with_reducible exact LeO.none _)
   | (with_reducible refine LeO.ite ?_ ?_)
   | (with_reducible refine LeO.bind ?_ (fun _ => ?_))
   | exact spec_l00Has.mono _ _ _
   | exact spec_l30Reach.mono _ _ _ _
   | exact LeO.none _
   | refine LeO.ite ?_ ?_
   | refine LeO.bind ?_ (fun _ => ?_)
theorem spec_l30Ok.mono : ∀ a0 a1 k, LeO (spec_l30Ok.f k a0 a1) (spec_l30Ok.f (k + 1) a0 a1) := by
 intro a0 a1 k
 obtain ⟨ih0, ih1⟩ := spec_l30Ok.mono_l k
 unfold spec_l30Ok.f
 repeat' first
   | (with_reducible exact ih0 _ _ _)
   | (with_reducible exact ih1 _ _ _)
   | (with_reducible exact spec_l00Has.mono _ _ _)
   | (with_reducible exact spec_l30Reach.mono _ _ _ _)
   | (with_reducible exact LeO.refl _)
   | (with_reducible exact LeO.none _)
   | (with_reducible refine LeO.ite ?_ ?_)
   | (with_reducible refine LeO.bind ?_ (fun _ => ?_))
   | exact spec_l00Has.mono _ _ _
   | exact spec_l30Reach.mono _ _ _ _
   | exact LeO.none _
   | refine LeO.ite ?_ ?_
   | refine LeO.bind ?_ (fun _ => ?_)
def spec_l30Ok.T1 : Bool × List (List Nat × List Nat) := (true, [([], []), ([0], [0]), ([1], [1]), ([2], [2]), ([3], [3]), ([4], [4]), ([5, 4], [5]), ([6], [6]), ([7, 6], [6, 7]), ([8, 6], [6, 8]), ([9, 6], [6, 9]), ([10, 6], [6, 10]), ([6], [6]), ([12, 6], [6, 12]), ([13, 6], [6, 13]), ([14, 6], [6, 14]), ([15, 6], [6, 15]), ([11, 16, 6], [6, 11, 16]), ([6, 17], [6, 17])])
def spec_l30Ok.B1 : List Nat := [0, 1, 3, 7, 15, 31, 63, 127, 255, 511, 1023, 2047, 127, 4223, 12415, 28799, 61567, 131071, 262143]
theorem spec_l30Ok.tab1 : rtab .any (opsOf Tryd.f47 1) = spec_l30Ok.T1 := by kernel_rfl
theorem spec_l30Ok.bits1 : waitsOk spec_l30Ok.T1.2 spec_l30Ok.B1 = true := by kernel_rfl
def spec_l30Ok.T6 : Bool × List (List Nat × List Nat) := (true, [([], []), ([0], [0]), ([1], [1]), ([2], [2]), ([], []), ([3, 4], [3, 4]), ([5], [5]), ([], []), ([7], [7]), ([8], [8]), ([9], [9]), ([6, 10], [6, 10]), ([11], [11]), ([12, 11], [12]), ([13], [13]), ([14, 13], [13, 14]), ([15, 13, 13], [13, 15]), ([16], [16]), ([17, 16], [16, 17]), ([18, 16], [16, 18]), ([19, 16], [16, 19]), ([16], [16]), ([21, 16], [16, 21]), ([20, 22, 16], [16, 20, 22]), ([23, 16], [16, 23]), ([16], [16]), ([25, 16], [16, 25]), ([26, 16], [16, 26]), ([27, 16], [16, 27]), ([16], [16]), ([28, 29, 16], [16, 28, 29]), ([30, 16], [16, 30]), ([24, 31, 16, 16], [16, 24, 31]), ([32, 16], [16, 32]), ([16, 33, 13], [13, 16, 33]), ([13, 34], [13, 34])])
def spec_l30Ok.B6 : List Nat := [0, 1, 3, 7, 0, 31, 63, 0, 128, 384, 896, 2047, 4095, 8191, 16383, 32767, 65535, 131071, 262143, 524287, 1048575, 131071, 2228223, 8388607, 16777215, 131071, 33685503, 100794367, 235012095, 131071, 1040318463, 2114060287, 4294967295, 8589934591, 17179869183, 34359738367]
theorem spec_l30Ok.tab6 : rtab .any (opsOf Tryd.f47 6) = spec_l30Ok.T6 := by kernel_rfl
theorem spec_l30Ok.bits6 : waitsOk spec_l30Ok.T6.2 spec_l30Ok.B6 = true := by kernel_rfl
set_option maxHeartbeats 8000000 in
set_option maxRecDepth 100000 in
theorem spec_l30Ok.calls (k : Nat) (g0 : Nat) (a0_0 : Int) (A0_1 : Option Addr) (c0_1 : Nat) (l0_1 : List (S52)) (r : Bool) (w : World) (hb0 : w.heap[g0]? = some (.cells #[.int .i64 a0_0, .slice A0_1 l0_1.length c0_1] 26 (0, 0))) (hr0_1 : Kd.C k52 w A0_1 l0_1.length l0_1) (hc0_1 : l0_1.length ≤ c0_1) (h : spec_l30Ok.f k a0_0 l0_1 = some r) :
  Calls Tryd.prog 47 #[.pointer (some ⟨g0, 0, none⟩)] w fun e w' => e = .returned (.bool r) ∧ Below w.heap.size w w' := by
 have hu52 := Tryd.underlying52
 have HR0_1 := Aside0.mk hr0_1
 have HC0_1 := Aside0.mk hc0_1
 clear hr0_1 hc0_1
 have BK0 := Aside0.mk hb0
 clear hb0
 have HB := Aside0.mk (Below.refl w.heap.size w)
 have H : ((spec_l00In.f a0_0 2 16).bind fun t236 => (if t236 = true then (spec_l30Ok.j0 k ((l0_1.length : Int) != (wrap64 (a0_0 - 1))) a0_0 l0_1) else (spec_l30Ok.j0 k true a0_0 l0_1))) = some r := h
 clear h
 have HC2 := Aside0.mk H
 clear H
 go_enter Tryd.func47, Tryd.ntmps47
 go_upto_region 1 with (fail)
 go_cut [24] (fun v24 wc => ∃ (kq : Nat) (x24_1 : Bool), v24 = .bool x24_1 ∧ Aside0 (spec_l30Ok.j0 kq x24_1 a0_0 l0_1 = some r) ∧ Aside0 (kq ≤ k) ∧ Aside0 (wc.heap[g0]? = some (.cells #[.int .i64 a0_0, (.slice A0_1 l0_1.length c0_1)] 26 (0, 0))) ∧ Aside0 (Below w.heap.size w wc))
 case first =>
  have H := HC2.out
  clear HC2
  replace H := Option.bind_eq_some_iff.mp H
  obtain ⟨t236, A30, H⟩ := H
  replace H : (if t236 = true then (spec_l30Ok.j0 k ((l0_1.length : Int) != (wrap64 (a0_0 - 1))) a0_0 l0_1) else (spec_l30Ok.j0 k true a0_0 l0_1)) = some r := H
  have A3 := Aside0.mk A30
  clear A30
  by_cases c4 : t236 = true
  ·subst c4
   have H1 : (spec_l30Ok.j0 k ((l0_1.length : Int) != (wrap64 (a0_0 - 1))) a0_0 l0_1) = some r := by rw [if_pos rfl] at H; exact H
   clear H
   have H := H1
   clear H1
   have H' := Aside0.mk H
   clear H
   try go_wp2
   have n0_ := Aside0.mk (blk_drew BK0.out)
   have n1_ := Aside0.mk (below_drew1 HB.out)
   clear BK0
   clear HB
   have BK0 := n0_
   have HB := n1_
   clear n0_ n1_
   refine start_ (n := 19) (S := fun w' => w'.cell? ⟨g0, 0, none⟩ = some (.int .i64 a0_0) ∧ w'.cell? ⟨g0, 1, none⟩ = some (.slice A0_1 l0_1.length c0_1)) (ds := []) (nb_ 19 0) (by kernel_rfl) rfl rfl ⟨(blk_cell BK0.out 0).trans rfl, (blk_cell BK0.out 1).trans rfl⟩ (fun hHeld => ?_); refine with_tabW spec_l30Ok.tab1 spec_l30Ok.bits1 (fun HT_ HW_ => ?_)
   generalize w.drew = w5 at BK0 HB hHeld ⊢
   refine puz_ 0 (some 6) (nb_ 19 1) rfl rfl (any_of HT_.out (by kernel_rfl)) ?_
   refine puz_ 1 (some 7) (nb_ 19 3) rfl rfl (any_of HT_.out (by kernel_rfl)) ?_
   refine puz_ 2 (some 8) (nb_ 19 7) rfl rfl (any_of HT_.out (by kernel_rfl)) ?_
   refine tkz_ 3 (some 9) (nb_ 19 15) rfl rfl (take_ofW HT_.out HW_.out (by kernel_rfl)) hHeld ?_
   refine one_ (i := 4) (N := some 10) (nb_ 19 31) rfl rfl (one_of HT_.out (by kernel_rfl)) (by decide) (fun K hK => ?_)
   refine goes_ Tryd.func62 (by kernel_rfl) rfl #[.int .i64 a0_0, .int .i64 2, .int .i64 16] (by rfl) rfl rfl mp_ ?_
   with_reducible refine (spec_l00In.calls a0_0 2 16 true _ A3.out).mono ?_
   rintro e w' ⟨rfl, ⟨nd, rfl⟩⟩
   refine ⟨_, rfl, ?_⟩
   refine hK.out _ _ ⟨(blk_cell BK0.out 0).trans rfl, (blk_cell BK0.out 1).trans rfl⟩ (fun hHeld => ?_)
   clear hK K
   refine norm_ (a' := ?_) ?_ ?_
   rotate_left
   ·show Act.put _ (some 10) _ = _
    simp only [Act.put, List.setIfInBounds_toArray, List.set_cons_zero, List.set_cons_succ, i64_w, i32_w]
    rfl
   refine puz_ 5 (some 11) (nb_ 19 63) rfl rfl (any_of HT_.out (by kernel_rfl)) ?_
   refine puz_ 6 (some 12) (nb_ 19 127) rfl rfl (any_of HT_.out (by kernel_rfl)) ?_
   refine puz_ 7 (some 13) (nb_ 19 255) rfl rfl (any_of HT_.out (by kernel_rfl)) ?_
   refine puz_ 8 (some 14) (nb_ 19 511) rfl rfl (any_of HT_.out (by kernel_rfl)) ?_
   refine puz_ 9 (some 15) (nb_ 19 1023) rfl rfl (any_of HT_.out (by kernel_rfl)) ?_
   refine puz_ 12 (some 18) (nb_ 19 5119) rfl rfl (any_of HT_.out (by kernel_rfl)) ?_
   refine puz_ 13 (some 19) (nb_ 19 13311) rfl rfl (any_of HT_.out (by kernel_rfl)) ?_
   refine puz_ 14 (some 20) (nb_ 19 29695) rfl rfl (any_of HT_.out (by kernel_rfl)) ?_
   refine tkz_ 10 (some 16) (nb_ 19 30719) rfl rfl (take_ofW HT_.out HW_.out (by kernel_rfl)) hHeld ?_
   refine puz_ 11 (some 17) (nb_ 19 32767) rfl rfl (any_of HT_.out (by kernel_rfl)) ?_
   refine tkz_ 15 (some 21) (nb_ 19 65535) rfl rfl (take_ofW HT_.out HW_.out (by kernel_rfl)) hHeld ?_
   refine puz_ 16 (some 22) (nb_ 19 131071) rfl rfl (any_of HT_.out (by kernel_rfl)) ?_
   refine puz_ 17 (some 23) (nb_ 19 262143) rfl rfl (any_of HT_.out (by kernel_rfl)) ?_
   refine puz_ 18 (some 24) (nb_ 19 524287) rfl rfl (any_of HT_.out (by kernel_rfl)) ?_
   refine done_ (done_of HT_.out (by kernel_rfl)) ?_
   try go_wp2
   go_meet
   case rel => exact ⟨_, (((l0_1.length : Int) != (wrap64 (a0_0 - 1)))), rs_, H', ⟨by first | omega | exact Nat.le_refl _⟩, ⟨bk_ BK0.out⟩, ⟨bl0_ HB.out⟩⟩
  ·replace c4 := Bool.eq_false_iff.mpr c4
   subst c4
   have H1 : (spec_l30Ok.j0 k true a0_0 l0_1) = some r := by rw [if_neg (show ¬ (false = true) by decide)] at H; exact H
   clear H
   have H := H1
   clear H1
   have H' := Aside0.mk H
   clear H
   try go_wp2
   have n0_ := Aside0.mk (blk_drew BK0.out)
   have n1_ := Aside0.mk (below_drew1 HB.out)
   clear BK0
   clear HB
   have BK0 := n0_
   have HB := n1_
   clear n0_ n1_
   refine start_ (n := 19) (S := fun w' => w'.cell? ⟨g0, 0, none⟩ = some (.int .i64 a0_0) ∧ w'.cell? ⟨g0, 1, none⟩ = some (.slice A0_1 l0_1.length c0_1)) (ds := []) (nb_ 19 0) (by kernel_rfl) rfl rfl ⟨(blk_cell BK0.out 0).trans rfl, (blk_cell BK0.out 1).trans rfl⟩ (fun hHeld => ?_); refine with_tabW spec_l30Ok.tab1 spec_l30Ok.bits1 (fun HT_ HW_ => ?_)
   generalize w.drew = w6 at BK0 HB hHeld ⊢
   refine puz_ 0 (some 6) (nb_ 19 1) rfl rfl (any_of HT_.out (by kernel_rfl)) ?_
   refine puz_ 1 (some 7) (nb_ 19 3) rfl rfl (any_of HT_.out (by kernel_rfl)) ?_
   refine puz_ 2 (some 8) (nb_ 19 7) rfl rfl (any_of HT_.out (by kernel_rfl)) ?_
   refine tkz_ 3 (some 9) (nb_ 19 15) rfl rfl (take_ofW HT_.out HW_.out (by kernel_rfl)) hHeld ?_
   refine one_ (i := 4) (N := some 10) (nb_ 19 31) rfl rfl (one_of HT_.out (by kernel_rfl)) (by decide) (fun K hK => ?_)
   refine goes_ Tryd.func62 (by kernel_rfl) rfl #[.int .i64 a0_0, .int .i64 2, .int .i64 16] (by rfl) rfl rfl mp_ ?_
   with_reducible refine (spec_l00In.calls a0_0 2 16 false _ A3.out).mono ?_
   rintro e w' ⟨rfl, ⟨nd, rfl⟩⟩
   refine ⟨_, rfl, ?_⟩
   refine hK.out _ _ ⟨(blk_cell BK0.out 0).trans rfl, (blk_cell BK0.out 1).trans rfl⟩ (fun hHeld => ?_)
   clear hK K
   refine norm_ (a' := ?_) ?_ ?_
   rotate_left
   ·show Act.put _ (some 10) _ = _
    simp only [Act.put, List.setIfInBounds_toArray, List.set_cons_zero, List.set_cons_succ, i64_w, i32_w]
    rfl
   refine puz_ 5 (some 11) (nb_ 19 63) rfl rfl (any_of HT_.out (by kernel_rfl)) ?_
   refine puz_ 6 (some 12) (nb_ 19 127) rfl rfl (any_of HT_.out (by kernel_rfl)) ?_
   refine puu_ 7 (some 13) (nb_ 19 255) rfl rfl (any_of HT_.out (by kernel_rfl)) ?_
   refine puu_ 8 (some 14) (nb_ 19 511) rfl rfl (any_of HT_.out (by kernel_rfl)) ?_
   refine puu_ 9 (some 15) (nb_ 19 1023) rfl rfl (any_of HT_.out (by kernel_rfl)) ?_
   refine puu_ 10 (some 16) (nb_ 19 2047) rfl rfl (any_of HT_.out (by kernel_rfl)) ?_
   refine puu_ 11 (some 17) (nb_ 19 4095) rfl rfl (any_of HT_.out (by kernel_rfl)) ?_
   refine puu_ 12 (some 18) (nb_ 19 8191) rfl rfl (any_of HT_.out (by kernel_rfl)) ?_
   refine puu_ 13 (some 19) (nb_ 19 16383) rfl rfl (any_of HT_.out (by kernel_rfl)) ?_
   refine puu_ 14 (some 20) (nb_ 19 32767) rfl rfl (any_of HT_.out (by kernel_rfl)) ?_
   refine puu_ 15 (some 21) (nb_ 19 65535) rfl rfl (any_of HT_.out (by kernel_rfl)) ?_
   refine puu_ 16 (some 22) (nb_ 19 131071) rfl rfl (any_of HT_.out (by kernel_rfl)) ?_
   refine puu_ 17 (some 23) (nb_ 19 262143) rfl rfl (any_of HT_.out (by kernel_rfl)) ?_
   refine puz_ 18 (some 24) (nb_ 19 524287) rfl rfl (any_of HT_.out (by kernel_rfl)) ?_
   refine done_ (done_of HT_.out (by kernel_rfl)) ?_
   try go_wp2
   go_meet
   case rel => exact ⟨_, (true), rs_, H', ⟨by first | omega | exact Nat.le_refl _⟩, ⟨bk_ BK0.out⟩, ⟨bl0_ HB.out⟩⟩
 case rest =>
  clear HC2
  try clear p2
  try clear c4
  try clear c6
  try clear p6
  obtain ⟨kq, x24_1, rfl, HA, HJ1, BK0, HB⟩ := hcut
  cases kq with
  | zero => exact absurd HA.out (by simp [spec_l30Ok.j0])
  | succ kj1 =>
   have H := HA.out
   clear HA
   simp only [spec_l30Ok.j0] at H
   by_cases c7 : x24_1 = true
   ·subst c7
    have H1 : (some false) = some r := by rw [if_pos rfl] at H; exact H
    clear H
    have H := H1
    clear H1
    obtain rfl := Option.some.inj H
    go_wp2
    go_ret
    exact ⟨re_, bl0_ HB.out⟩
   ·replace c7 := Bool.eq_false_iff.mpr c7
    subst c7
    have H1 : (spec_l30Ok.l0 kj1 0 a0_0 l0_1) = some r := by rw [if_neg (show ¬ (false = true) by decide)] at H; exact H
    clear H
    have H := H1
    clear H1
    have H' := Aside0.mk H
    clear H
    go_wp2
    go_loopg [3] kj1 (fun kq v3 w' => ∃ (x3_2 : Int), v3 = .int .i64 x3_2 ∧ Aside0 (spec_l30Ok.l0 kq x3_2 a0_0 l0_1 = some r) ∧ Aside0 (kq ≤ kj1) ∧ Aside0 (w'.heap[g0]? = some (.cells #[.int .i64 a0_0, (.slice A0_1 l0_1.length c0_1)] 26 (0, 0))) ∧ Aside0 (Below w.heap.size w w'))
    case atStart => exact ⟨(0), rs_, H', ⟨Nat.le_refl _⟩, ⟨bk_ BK0.out⟩, ⟨bl0_ HB.out⟩⟩
    case round =>
     clear H'
     try clear p2
     try clear c4
     try clear c6
     try clear p6
     try clear c7
     try clear p2
     try clear p6
     obtain ⟨x3_2, rfl, HA, HK2, BK0, HB⟩ := hrel
     cases gk with
     | zero => exact absurd HA.out (by simp [spec_l30Ok.l0])
     | succ k2 =>
      have H := HA.out
      clear HA
      simp only [spec_l30Ok.l0] at H
      by_cases c8 : x3_2 < (l0_1.length : Int)
      ·rw [if_pos c8] at H
       have c8b0 := decide_eq_true c8
       clear c8
       by_cases c9 : 0 ≤ x3_2
       rotate_left
       ·exact nope_ c9 H
       rw [if_pos c9] at H
       have c9b0 := decide_eq_true c9
       clear c9
       replace H := Option.bind_eq_some_iff.mp H
       obtain ⟨t245, A100, H⟩ := H
       replace H : (if t245 = true then (if x3_2 > 0 then (if 0 ≤ (wrap64 (x3_2 - 1)) then (if (wrap64 (x3_2 - 1)) < (l0_1.length : Int) then ((spec_l30Less.f ((rd_T52 l0_1 (wrap64 (x3_2 - 1))).f0) ((rd_T52 l0_1 (wrap64 (x3_2 - 1))).f1) ((rd_T52 l0_1 (wrap64 (x3_2 - 1))).f2) ((rd_T52 l0_1 x3_2).f0) ((rd_T52 l0_1 x3_2).f1) ((rd_T52 l0_1 x3_2).f2)).bind fun t248 => (if t248 = true then (spec_l30Ok.l0 k2 (wrap64 (x3_2 + 1)) a0_0 l0_1) else (some false))) else (none)) else (none)) else (spec_l30Ok.l0 k2 (wrap64 (x3_2 + 1)) a0_0 l0_1)) else (some false)) = some r := H
       have A10 := Aside0.mk A100
       clear A100
       by_cases c11 : t245 = true
       ·subst c11
        have H1 : (if x3_2 > 0 then (if 0 ≤ (wrap64 (x3_2 - 1)) then (if (wrap64 (x3_2 - 1)) < (l0_1.length : Int) then ((spec_l30Less.f ((rd_T52 l0_1 (wrap64 (x3_2 - 1))).f0) ((rd_T52 l0_1 (wrap64 (x3_2 - 1))).f1) ((rd_T52 l0_1 (wrap64 (x3_2 - 1))).f2) ((rd_T52 l0_1 x3_2).f0) ((rd_T52 l0_1 x3_2).f1) ((rd_T52 l0_1 x3_2).f2)).bind fun t248 => (if t248 = true then (spec_l30Ok.l0 k2 (wrap64 (x3_2 + 1)) a0_0 l0_1) else (some false))) else (none)) else (none)) else (spec_l30Ok.l0 k2 (wrap64 (x3_2 + 1)) a0_0 l0_1)) = some r := by rw [if_pos rfl] at H; exact H
        clear H
        have H := H1
        clear H1
        by_cases c12 : x3_2 > 0
        ·rw [if_pos c12] at H
         have c12b0 : decide (0 < x3_2) = true := decide_eq_true c12
         clear c12
         obtain ⟨ji13, hji13⟩ : ∃ j_ : Int, (wrap64 (x3_2 - 1)) = j_ := ⟨_, rfl⟩
         replace H : (if 0 ≤ (ji13) then (if (ji13) < (l0_1.length : Int) then ((spec_l30Less.f ((rd_T52 l0_1 (ji13)).f0) ((rd_T52 l0_1 (ji13)).f1) ((rd_T52 l0_1 (ji13)).f2) ((rd_T52 l0_1 x3_2).f0) ((rd_T52 l0_1 x3_2).f1) ((rd_T52 l0_1 x3_2).f2)).bind fun t248 => (if t248 = true then (spec_l30Ok.l0 k2 (wrap64 (x3_2 + 1)) a0_0 l0_1) else (some false))) else (none)) else (none)) = some r := by first | (rw [hji13] at H; exact H) | (simp only [hji13] at H ⊢; exact H)
         (try rw [hji13] at A10)
         have hji13w : (IntKind.i64.wrap (x3_2 - 1)) = ji13 := (i64_w _).trans hji13
         by_cases c14 : 0 ≤ (ji13)
         rotate_left
         ·exact nope_ c14 H
         rw [if_pos c14] at H
         have c14b0 := decide_eq_true c14
         clear c14
         by_cases c15 : (ji13) < (l0_1.length : Int)
         rotate_left
         ·exact nope_ c15 H
         rw [if_pos c15] at H
         have c15b0 := decide_eq_true c15
         clear c15
         replace H := Option.bind_eq_some_iff.mp H
         obtain ⟨t248, A160, H⟩ := H
         replace H : (if t248 = true then (spec_l30Ok.l0 k2 (wrap64 (x3_2 + 1)) a0_0 l0_1) else (some false)) = some r := H
         have A16 := Aside0.mk A160
         clear A160
         by_cases c17 : t248 = true
         ·subst c17
          have H1 : (spec_l30Ok.l0 k2 (wrap64 (x3_2 + 1)) a0_0 l0_1) = some r := by rw [if_pos rfl] at H; exact H
          clear H
          have H := H1
          clear H1
          have H' := Aside0.mk H
          clear H
          obtain ⟨hcz18_0, hcz18_1, hfz18_0, hfz18_1⟩ := cz2_ BK0.out
          try go_wp2
          have n0_ := Aside0.mk (blk_drew BK0.out)
          have n1_ := Aside0.mk (below_drew1 HB.out)
          clear BK0
          clear HB
          have BK0 := n0_
          have HB := n1_
          clear n0_ n1_
          have p244 : 0 ≤ (x3_2 : Int) := od_
          have q244 : x3_2 < (l0_1.length : Int) := od_
          obtain ⟨ad244, e244, hx244_0, hx244_1, hx244_2⟩ := at_T52 HR0_1.out x3_2 p244 q244
          have hw244_2 := hx244_2
          have hw244_1 := hx244_1
          have hw244_0 := hx244_0
          cases e244
          replace hx244_0 := (HB.out.cell (World.block_lt_of_cell? w _ hx244_0)).trans hx244_0
          replace hx244_1 := (HB.out.cell (World.block_lt_of_cell? w _ hx244_1)).trans hx244_1
          replace hx244_2 := (HB.out.cell (World.block_lt_of_cell? w _ hx244_2)).trans hx244_2
          replace p244 := eq_true p244
          replace q244 := eq_true q244
          have p246 : 0 ≤ ((ji13) : Int) := od_
          have q246 : (ji13) < (l0_1.length : Int) := od_
          obtain ⟨ad246, e246, hx246_0, hx246_1, hx246_2⟩ := at_T52 HR0_1.out (ji13) p246 q246
          have hw246_2 := hx246_2
          have hw246_1 := hx246_1
          have hw246_0 := hx246_0
          obtain rfl : ad244 = ad246 := (by injection e246)
          replace hx246_0 := (HB.out.cell (World.block_lt_of_cell? w _ hx246_0)).trans hx246_0
          replace hx246_1 := (HB.out.cell (World.block_lt_of_cell? w _ hx246_1)).trans hx246_1
          replace hx246_2 := (HB.out.cell (World.block_lt_of_cell? w _ hx246_2)).trans hx246_2
          replace p246 := eq_true p246
          replace q246 := eq_true q246
          have p247 : 0 ≤ (x3_2 : Int) := od_
          have q247 : x3_2 < (l0_1.length : Int) := od_
          obtain ⟨ad247, e247, hx247_0, hx247_1, hx247_2⟩ := at_T52 HR0_1.out x3_2 p247 q247
          have hw247_2 := hx247_2
          have hw247_1 := hx247_1
          have hw247_0 := hx247_0
          obtain rfl : ad244 = ad247 := (by injection e247)
          replace hx247_0 := (HB.out.cell (World.block_lt_of_cell? w _ hx247_0)).trans hx247_0
          replace hx247_1 := (HB.out.cell (World.block_lt_of_cell? w _ hx247_1)).trans hx247_1
          replace hx247_2 := (HB.out.cell (World.block_lt_of_cell? w _ hx247_2)).trans hx247_2
          replace p247 := eq_true p247
          replace q247 := eq_true q247
          refine start_ (n := 36) (S := fun w' => w'.cell? ⟨g0, 0, none⟩ = some (.int .i64 a0_0) ∧ w'.cell? ⟨g0, 1, none⟩ = some (.slice (some ad244) l0_1.length c0_1) ∧ w'.cell? (ad244.add ((x3_2).toNat * 3)) = some (.int .i64 ((rd_T52 l0_1 x3_2).f0)) ∧ w'.cell? ⟨(ad244.add ((x3_2).toNat * 3)).block, (ad244.add ((x3_2).toNat * 3)).off + 1, none⟩ = some (.int .i64 ((rd_T52 l0_1 x3_2).f1)) ∧ w'.cell? ⟨(ad244.add ((x3_2).toNat * 3)).block, (ad244.add ((x3_2).toNat * 3)).off + 2, none⟩ = some (.int .i64 ((rd_T52 l0_1 x3_2).f2)) ∧ w'.cell? (ad244.add (((ji13)).toNat * 3)) = some (.int .i64 ((rd_T52 l0_1 (ji13)).f0)) ∧ w'.cell? ⟨(ad244.add (((ji13)).toNat * 3)).block, (ad244.add (((ji13)).toNat * 3)).off + 1, none⟩ = some (.int .i64 ((rd_T52 l0_1 (ji13)).f1)) ∧ w'.cell? ⟨(ad244.add (((ji13)).toNat * 3)).block, (ad244.add (((ji13)).toNat * 3)).off + 2, none⟩ = some (.int .i64 ((rd_T52 l0_1 (ji13)).f2)) ∧ w'.cell? (ad244.add ((x3_2).toNat * 3)) = some (.int .i64 ((rd_T52 l0_1 x3_2).f0)) ∧ w'.cell? ⟨(ad244.add ((x3_2).toNat * 3)).block, (ad244.add ((x3_2).toNat * 3)).off + 1, none⟩ = some (.int .i64 ((rd_T52 l0_1 x3_2).f1)) ∧ w'.cell? ⟨(ad244.add ((x3_2).toNat * 3)).block, (ad244.add ((x3_2).toNat * 3)).off + 2, none⟩ = some (.int .i64 ((rd_T52 l0_1 x3_2).f2))) (ds := []) (nb_ 36 0) (by kernel_rfl) rfl rfl ⟨(blk_cell BK0.out 0).trans rfl, (blk_cell BK0.out 1).trans rfl, ((HB.out.cell (World.block_lt_of_cell? w _ hw244_0)).trans hw244_0), ((HB.out.cell (World.block_lt_of_cell? w _ hw244_1)).trans hw244_1), ((HB.out.cell (World.block_lt_of_cell? w _ hw244_2)).trans hw244_2), ((HB.out.cell (World.block_lt_of_cell? w _ hw246_0)).trans hw246_0), ((HB.out.cell (World.block_lt_of_cell? w _ hw246_1)).trans hw246_1), ((HB.out.cell (World.block_lt_of_cell? w _ hw246_2)).trans hw246_2), ((HB.out.cell (World.block_lt_of_cell? w _ hw247_0)).trans hw247_0), ((HB.out.cell (World.block_lt_of_cell? w _ hw247_1)).trans hw247_1), ((HB.out.cell (World.block_lt_of_cell? w _ hw247_2)).trans hw247_2)⟩ (fun hHeld => ?_); refine with_tabW spec_l30Ok.tab6 spec_l30Ok.bits6 (fun HT_ HW_ => ?_)
          generalize wr.drew = w19 at BK0 HB hx244_0 hx244_1 hx244_2 hx246_0 hx246_1 hx246_2 hx247_0 hx247_1 hx247_2 hHeld ⊢
          refine puz_ 0 (some 34) (nb_ 36 1) rfl rfl (any_of HT_.out (by kernel_rfl)) ?_
          refine puz_ 1 (some 35) (nb_ 36 3) rfl rfl (any_of HT_.out (by kernel_rfl)) ?_
          refine puz_ 2 (some 36) (nb_ 36 7) rfl rfl (any_of HT_.out (by kernel_rfl)) ?_
          refine puz_ 4 (some 38) (nb_ 36 23) rfl rfl (any_of HT_.out (by kernel_rfl)) ?_
          refine puz_ 7 (some 41) (nb_ 36 151) rfl rfl (any_of HT_.out (by kernel_rfl)) ?_
          refine puz_ 8 (some 42) (nb_ 36 407) rfl rfl (any_of HT_.out (by kernel_rfl)) ?_
          refine puz_ 9 (some 43) (nb_ 36 919) rfl rfl (any_of HT_.out (by kernel_rfl)) ?_
          refine tkz_ 3 (some 37) (nb_ 36 927) rfl rfl (take_ofW HT_.out HW_.out (by kernel_rfl)) hHeld ?_
          refine puz_ 5 (some 39) (nb_ 36 959) rfl rfl (any_of HT_.out (by kernel_rfl)) ?_
          refine tkz_ 6 (some 40) (nb_ 36 1023) rfl rfl (take_ofW HT_.out HW_.out (by kernel_rfl)) hHeld ?_
          refine tkz_ 10 (some 44) (nb_ 36 2047) rfl rfl (take_ofW HT_.out HW_.out (by kernel_rfl)) hHeld ?_
          refine one_ (i := 11) (N := some 45) (nb_ 36 4095) rfl rfl (one_of HT_.out (by kernel_rfl)) (by decide) (fun K hK => ?_)
          refine goes_ Tryd.func63 (by kernel_rfl) rfl #[.agg #[.int .i64 ((rd_T52 l0_1 x3_2).f0), .int .i64 ((rd_T52 l0_1 x3_2).f1), .int .i64 ((rd_T52 l0_1 x3_2).f2)], .int .i64 a0_0] (by rfl) rfl rfl mp_ ?_
          with_reducible refine (spec_l30Edge.calls ((rd_T52 l0_1 x3_2).f0) ((rd_T52 l0_1 x3_2).f1) ((rd_T52 l0_1 x3_2).f2) a0_0 true _ A10.out).mono ?_
          rintro e w20 ⟨rfl, hb⟩
          refine ⟨_, rfl, ?_⟩
          have n0_ := Aside0.mk (blk_below (g := g0) (o := .cells #[.int .i64 a0_0, .slice (some ad244) l0_1.length c0_1] 26 (0, 0)) (bk_ BK0.out) hb)
          have n1_ := Aside0.mk (below_step (bl0_ HB.out) hb)
          clear BK0
          clear HB
          have BK0 := n0_
          have HB := n1_
          clear n0_ n1_
          (try clear hb)
          (try clear hb2)
          (try clear hk)
          (try clear hi)
          refine hK.out _ _ ⟨(blk_cell BK0.out 0).trans rfl, (blk_cell BK0.out 1).trans rfl, ((HB.out.cell (World.block_lt_of_cell? w _ hw244_0)).trans hw244_0), ((HB.out.cell (World.block_lt_of_cell? w _ hw244_1)).trans hw244_1), ((HB.out.cell (World.block_lt_of_cell? w _ hw244_2)).trans hw244_2), ((HB.out.cell (World.block_lt_of_cell? w _ hw246_0)).trans hw246_0), ((HB.out.cell (World.block_lt_of_cell? w _ hw246_1)).trans hw246_1), ((HB.out.cell (World.block_lt_of_cell? w _ hw246_2)).trans hw246_2), ((HB.out.cell (World.block_lt_of_cell? w _ hw247_0)).trans hw247_0), ((HB.out.cell (World.block_lt_of_cell? w _ hw247_1)).trans hw247_1), ((HB.out.cell (World.block_lt_of_cell? w _ hw247_2)).trans hw247_2)⟩ (fun hHeld => ?_)
          clear hK K
          refine norm_ (a' := ?_) ?_ ?_
          rotate_left
          ·show Act.put _ (some 45) _ = _
           simp only [Act.put, List.setIfInBounds_toArray, List.set_cons_zero, List.set_cons_succ, i64_w, i32_w]
           rfl
          refine puz_ 12 (some 46) (nb_ 36 8191) rfl rfl (any_of HT_.out (by kernel_rfl)) ?_
          refine puz_ 13 (some 47) (nb_ 36 16383) rfl rfl (any_of HT_.out (by kernel_rfl)) ?_
          refine puz_ 14 (some 48) (nb_ 36 32767) rfl rfl (any_of HT_.out (by kernel_rfl)) ?_
          refine puz_ 15 (some 49) (nb_ 36 65535) rfl rfl (any_of HT_.out (by kernel_rfl)) ?_
          refine puz_ 16 (some 50) (nb_ 36 131071) rfl rfl (any_of HT_.out (by kernel_rfl)) ?_
          refine puz_ 17 (some 51) (nb_ 36 262143) rfl rfl (any_of HT_.out (by kernel_rfl)) ?_
          refine puz_ 18 (some 52) (nb_ 36 524287) rfl rfl (any_of HT_.out (by kernel_rfl)) ?_
          refine puz_ 19 (some 53) (nb_ 36 1048575) rfl rfl (any_of HT_.out (by kernel_rfl)) ?_
          refine puz_ 21 (some 55) (nb_ 36 3145727) rfl rfl (any_of HT_.out (by kernel_rfl)) ?_
          refine puz_ 22 (some 56) (nb_ 36 7340031) rfl rfl (any_of HT_.out (by kernel_rfl)) ?_
          refine puz_ 25 (some 59) (nb_ 36 40894463) rfl rfl (any_of HT_.out (by kernel_rfl)) ?_
          refine puz_ 26 (some 60) (nb_ 36 108003327) rfl rfl (any_of HT_.out (by kernel_rfl)) ?_
          refine puz_ 27 (some 61) (nb_ 36 242221055) rfl rfl (any_of HT_.out (by kernel_rfl)) ?_
          refine puz_ 29 (some 63) (nb_ 36 779091967) rfl rfl (any_of HT_.out (by kernel_rfl)) ?_
          refine tkz_ 20 (some 54) (nb_ 36 780140543) rfl rfl (take_ofW HT_.out HW_.out (by kernel_rfl)) hHeld ?_
          refine puz_ 23 (some 57) (nb_ 36 788529151) rfl rfl (any_of HT_.out (by kernel_rfl)) ?_
          refine tkz_ 24 (some 58) (nb_ 36 805306367) rfl rfl (take_ofW HT_.out HW_.out (by kernel_rfl)) hHeld ?_
          refine tkz_ 28 (some 62) (nb_ 36 1073741823) rfl rfl (take_ofW HT_.out HW_.out (by kernel_rfl)) hHeld ?_
          refine puz_ 30 (some 64) (nb_ 36 2147483647) rfl rfl (any_of HT_.out (by kernel_rfl)) ?_
          refine tkz_ 31 (some 65) (nb_ 36 4294967295) rfl rfl (take_ofW HT_.out HW_.out (by kernel_rfl)) hHeld ?_
          refine one_ (i := 32) (N := some 66) (nb_ 36 8589934591) rfl rfl (one_of HT_.out (by kernel_rfl)) (by decide) (fun K hK => ?_)
          refine goes_ Tryd.func51 (by kernel_rfl) rfl #[.agg #[.int .i64 ((rd_T52 l0_1 (ji13)).f0), .int .i64 ((rd_T52 l0_1 (ji13)).f1), .int .i64 ((rd_T52 l0_1 (ji13)).f2)], .agg #[.int .i64 ((rd_T52 l0_1 x3_2).f0), .int .i64 ((rd_T52 l0_1 x3_2).f1), .int .i64 ((rd_T52 l0_1 x3_2).f2)]] (by rfl) rfl rfl (by (try simp only [List.map_toArray, List.map_cons, List.map_nil]); first | done | (simp only [hji13]; rfl) | rfl | (simp only [List.length_drop, List.length_take]; rfl)) ?_
          with_reducible refine (spec_l30Less.calls ((rd_T52 l0_1 (ji13)).f0) ((rd_T52 l0_1 (ji13)).f1) ((rd_T52 l0_1 (ji13)).f2) ((rd_T52 l0_1 x3_2).f0) ((rd_T52 l0_1 x3_2).f1) ((rd_T52 l0_1 x3_2).f2) true _ A16.out).mono ?_
          rintro e w21 ⟨rfl, hb⟩
          refine ⟨_, rfl, ?_⟩
          have n0_ := Aside0.mk (blk_below (g := g0) (o := .cells #[.int .i64 a0_0, .slice (some ad244) l0_1.length c0_1] 26 (0, 0)) (bk_ BK0.out) hb)
          have n1_ := Aside0.mk (below_step (bl0_ HB.out) hb)
          clear BK0
          clear HB
          have BK0 := n0_
          have HB := n1_
          clear n0_ n1_
          (try clear hb)
          (try clear hb2)
          (try clear hk)
          (try clear hi)
          refine hK.out _ _ ⟨(blk_cell BK0.out 0).trans rfl, (blk_cell BK0.out 1).trans rfl, ((HB.out.cell (World.block_lt_of_cell? w _ hw244_0)).trans hw244_0), ((HB.out.cell (World.block_lt_of_cell? w _ hw244_1)).trans hw244_1), ((HB.out.cell (World.block_lt_of_cell? w _ hw244_2)).trans hw244_2), ((HB.out.cell (World.block_lt_of_cell? w _ hw246_0)).trans hw246_0), ((HB.out.cell (World.block_lt_of_cell? w _ hw246_1)).trans hw246_1), ((HB.out.cell (World.block_lt_of_cell? w _ hw246_2)).trans hw246_2), ((HB.out.cell (World.block_lt_of_cell? w _ hw247_0)).trans hw247_0), ((HB.out.cell (World.block_lt_of_cell? w _ hw247_1)).trans hw247_1), ((HB.out.cell (World.block_lt_of_cell? w _ hw247_2)).trans hw247_2)⟩ (fun hHeld => ?_)
          clear hK K
          refine norm_ (a' := ?_) ?_ ?_
          rotate_left
          ·show Act.put _ (some 66) _ = _
           simp only [Act.put, List.setIfInBounds_toArray, List.set_cons_zero, List.set_cons_succ, i64_w, i32_w]
           rfl
          refine puz_ 33 (some 67) (nb_ 36 17179869183) rfl rfl (any_of HT_.out (by kernel_rfl)) ?_
          refine puz_ 34 (some 68) (nb_ 36 34359738367) rfl rfl (any_of HT_.out (by kernel_rfl)) ?_
          refine puz_ 35 (some 69) (nb_ 36 68719476735) rfl rfl (any_of HT_.out (by kernel_rfl)) ?_
          refine done_ (done_of HT_.out (by kernel_rfl)) ?_
          try go_wp2
          go_roundg k2
          case measure => have := HJ1.out; have := HK2.out; omega
          case rel => exact ⟨(wrap64 (x3_2 + 1)), rs_, H', ⟨by have := HJ1.out; have := HK2.out; omega⟩, ⟨bk_ BK0.out⟩, ⟨bl0_ HB.out⟩⟩
         ·replace c17 := Bool.eq_false_iff.mpr c17
          subst c17
          have H1 : (some false) = some r := by rw [if_neg (show ¬ (false = true) by decide)] at H; exact H
          clear H
          have H := H1
          clear H1
          obtain rfl := Option.some.inj H
          obtain ⟨hcz22_0, hcz22_1, hfz22_0, hfz22_1⟩ := cz2_ BK0.out
          try go_wp2
          have n0_ := Aside0.mk (blk_drew BK0.out)
          have n1_ := Aside0.mk (below_drew1 HB.out)
          clear BK0
          clear HB
          have BK0 := n0_
          have HB := n1_
          clear n0_ n1_
          have p244 : 0 ≤ (x3_2 : Int) := od_
          have q244 : x3_2 < (l0_1.length : Int) := od_
          obtain ⟨ad244, e244, hx244_0, hx244_1, hx244_2⟩ := at_T52 HR0_1.out x3_2 p244 q244
          have hw244_2 := hx244_2
          have hw244_1 := hx244_1
          have hw244_0 := hx244_0
          cases e244
          replace hx244_0 := (HB.out.cell (World.block_lt_of_cell? w _ hx244_0)).trans hx244_0
          replace hx244_1 := (HB.out.cell (World.block_lt_of_cell? w _ hx244_1)).trans hx244_1
          replace hx244_2 := (HB.out.cell (World.block_lt_of_cell? w _ hx244_2)).trans hx244_2
          replace p244 := eq_true p244
          replace q244 := eq_true q244
          have p246 : 0 ≤ ((ji13) : Int) := od_
          have q246 : (ji13) < (l0_1.length : Int) := od_
          obtain ⟨ad246, e246, hx246_0, hx246_1, hx246_2⟩ := at_T52 HR0_1.out (ji13) p246 q246
          have hw246_2 := hx246_2
          have hw246_1 := hx246_1
          have hw246_0 := hx246_0
          obtain rfl : ad244 = ad246 := (by injection e246)
          replace hx246_0 := (HB.out.cell (World.block_lt_of_cell? w _ hx246_0)).trans hx246_0
          replace hx246_1 := (HB.out.cell (World.block_lt_of_cell? w _ hx246_1)).trans hx246_1
          replace hx246_2 := (HB.out.cell (World.block_lt_of_cell? w _ hx246_2)).trans hx246_2
          replace p246 := eq_true p246
          replace q246 := eq_true q246
          have p247 : 0 ≤ (x3_2 : Int) := od_
          have q247 : x3_2 < (l0_1.length : Int) := od_
          obtain ⟨ad247, e247, hx247_0, hx247_1, hx247_2⟩ := at_T52 HR0_1.out x3_2 p247 q247
          have hw247_2 := hx247_2
          have hw247_1 := hx247_1
          have hw247_0 := hx247_0
          obtain rfl : ad244 = ad247 := (by injection e247)
          replace hx247_0 := (HB.out.cell (World.block_lt_of_cell? w _ hx247_0)).trans hx247_0
          replace hx247_1 := (HB.out.cell (World.block_lt_of_cell? w _ hx247_1)).trans hx247_1
          replace hx247_2 := (HB.out.cell (World.block_lt_of_cell? w _ hx247_2)).trans hx247_2
          replace p247 := eq_true p247
          replace q247 := eq_true q247
          refine start_ (n := 36) (S := fun w' => w'.cell? ⟨g0, 0, none⟩ = some (.int .i64 a0_0) ∧ w'.cell? ⟨g0, 1, none⟩ = some (.slice (some ad244) l0_1.length c0_1) ∧ w'.cell? (ad244.add ((x3_2).toNat * 3)) = some (.int .i64 ((rd_T52 l0_1 x3_2).f0)) ∧ w'.cell? ⟨(ad244.add ((x3_2).toNat * 3)).block, (ad244.add ((x3_2).toNat * 3)).off + 1, none⟩ = some (.int .i64 ((rd_T52 l0_1 x3_2).f1)) ∧ w'.cell? ⟨(ad244.add ((x3_2).toNat * 3)).block, (ad244.add ((x3_2).toNat * 3)).off + 2, none⟩ = some (.int .i64 ((rd_T52 l0_1 x3_2).f2)) ∧ w'.cell? (ad244.add (((ji13)).toNat * 3)) = some (.int .i64 ((rd_T52 l0_1 (ji13)).f0)) ∧ w'.cell? ⟨(ad244.add (((ji13)).toNat * 3)).block, (ad244.add (((ji13)).toNat * 3)).off + 1, none⟩ = some (.int .i64 ((rd_T52 l0_1 (ji13)).f1)) ∧ w'.cell? ⟨(ad244.add (((ji13)).toNat * 3)).block, (ad244.add (((ji13)).toNat * 3)).off + 2, none⟩ = some (.int .i64 ((rd_T52 l0_1 (ji13)).f2)) ∧ w'.cell? (ad244.add ((x3_2).toNat * 3)) = some (.int .i64 ((rd_T52 l0_1 x3_2).f0)) ∧ w'.cell? ⟨(ad244.add ((x3_2).toNat * 3)).block, (ad244.add ((x3_2).toNat * 3)).off + 1, none⟩ = some (.int .i64 ((rd_T52 l0_1 x3_2).f1)) ∧ w'.cell? ⟨(ad244.add ((x3_2).toNat * 3)).block, (ad244.add ((x3_2).toNat * 3)).off + 2, none⟩ = some (.int .i64 ((rd_T52 l0_1 x3_2).f2))) (ds := []) (nb_ 36 0) (by kernel_rfl) rfl rfl ⟨(blk_cell BK0.out 0).trans rfl, (blk_cell BK0.out 1).trans rfl, ((HB.out.cell (World.block_lt_of_cell? w _ hw244_0)).trans hw244_0), ((HB.out.cell (World.block_lt_of_cell? w _ hw244_1)).trans hw244_1), ((HB.out.cell (World.block_lt_of_cell? w _ hw244_2)).trans hw244_2), ((HB.out.cell (World.block_lt_of_cell? w _ hw246_0)).trans hw246_0), ((HB.out.cell (World.block_lt_of_cell? w _ hw246_1)).trans hw246_1), ((HB.out.cell (World.block_lt_of_cell? w _ hw246_2)).trans hw246_2), ((HB.out.cell (World.block_lt_of_cell? w _ hw247_0)).trans hw247_0), ((HB.out.cell (World.block_lt_of_cell? w _ hw247_1)).trans hw247_1), ((HB.out.cell (World.block_lt_of_cell? w _ hw247_2)).trans hw247_2)⟩ (fun hHeld => ?_); refine with_tabW spec_l30Ok.tab6 spec_l30Ok.bits6 (fun HT_ HW_ => ?_)
          generalize wr.drew = w23 at BK0 HB hx244_0 hx244_1 hx244_2 hx246_0 hx246_1 hx246_2 hx247_0 hx247_1 hx247_2 hHeld ⊢
          refine puz_ 0 (some 34) (nb_ 36 1) rfl rfl (any_of HT_.out (by kernel_rfl)) ?_
          refine puz_ 1 (some 35) (nb_ 36 3) rfl rfl (any_of HT_.out (by kernel_rfl)) ?_
          refine puz_ 2 (some 36) (nb_ 36 7) rfl rfl (any_of HT_.out (by kernel_rfl)) ?_
          refine puz_ 4 (some 38) (nb_ 36 23) rfl rfl (any_of HT_.out (by kernel_rfl)) ?_
          refine puz_ 7 (some 41) (nb_ 36 151) rfl rfl (any_of HT_.out (by kernel_rfl)) ?_
          refine puz_ 8 (some 42) (nb_ 36 407) rfl rfl (any_of HT_.out (by kernel_rfl)) ?_
          refine puz_ 9 (some 43) (nb_ 36 919) rfl rfl (any_of HT_.out (by kernel_rfl)) ?_
          refine tkz_ 3 (some 37) (nb_ 36 927) rfl rfl (take_ofW HT_.out HW_.out (by kernel_rfl)) hHeld ?_
          refine puz_ 5 (some 39) (nb_ 36 959) rfl rfl (any_of HT_.out (by kernel_rfl)) ?_
          refine tkz_ 6 (some 40) (nb_ 36 1023) rfl rfl (take_ofW HT_.out HW_.out (by kernel_rfl)) hHeld ?_
          refine tkz_ 10 (some 44) (nb_ 36 2047) rfl rfl (take_ofW HT_.out HW_.out (by kernel_rfl)) hHeld ?_
          refine one_ (i := 11) (N := some 45) (nb_ 36 4095) rfl rfl (one_of HT_.out (by kernel_rfl)) (by decide) (fun K hK => ?_)
          refine goes_ Tryd.func63 (by kernel_rfl) rfl #[.agg #[.int .i64 ((rd_T52 l0_1 x3_2).f0), .int .i64 ((rd_T52 l0_1 x3_2).f1), .int .i64 ((rd_T52 l0_1 x3_2).f2)], .int .i64 a0_0] (by rfl) rfl rfl mp_ ?_
          with_reducible refine (spec_l30Edge.calls ((rd_T52 l0_1 x3_2).f0) ((rd_T52 l0_1 x3_2).f1) ((rd_T52 l0_1 x3_2).f2) a0_0 true _ A10.out).mono ?_
          rintro e w24 ⟨rfl, hb⟩
          refine ⟨_, rfl, ?_⟩
          have n0_ := Aside0.mk (blk_below (g := g0) (o := .cells #[.int .i64 a0_0, .slice (some ad244) l0_1.length c0_1] 26 (0, 0)) (bk_ BK0.out) hb)
          have n1_ := Aside0.mk (below_step (bl0_ HB.out) hb)
          clear BK0
          clear HB
          have BK0 := n0_
          have HB := n1_
          clear n0_ n1_
          (try clear hb)
          (try clear hb2)
          (try clear hk)
          (try clear hi)
          refine hK.out _ _ ⟨(blk_cell BK0.out 0).trans rfl, (blk_cell BK0.out 1).trans rfl, ((HB.out.cell (World.block_lt_of_cell? w _ hw244_0)).trans hw244_0), ((HB.out.cell (World.block_lt_of_cell? w _ hw244_1)).trans hw244_1), ((HB.out.cell (World.block_lt_of_cell? w _ hw244_2)).trans hw244_2), ((HB.out.cell (World.block_lt_of_cell? w _ hw246_0)).trans hw246_0), ((HB.out.cell (World.block_lt_of_cell? w _ hw246_1)).trans hw246_1), ((HB.out.cell (World.block_lt_of_cell? w _ hw246_2)).trans hw246_2), ((HB.out.cell (World.block_lt_of_cell? w _ hw247_0)).trans hw247_0), ((HB.out.cell (World.block_lt_of_cell? w _ hw247_1)).trans hw247_1), ((HB.out.cell (World.block_lt_of_cell? w _ hw247_2)).trans hw247_2)⟩ (fun hHeld => ?_)
          clear hK K
          refine norm_ (a' := ?_) ?_ ?_
          rotate_left
          ·show Act.put _ (some 45) _ = _
           simp only [Act.put, List.setIfInBounds_toArray, List.set_cons_zero, List.set_cons_succ, i64_w, i32_w]
           rfl
          refine puz_ 12 (some 46) (nb_ 36 8191) rfl rfl (any_of HT_.out (by kernel_rfl)) ?_
          refine puz_ 13 (some 47) (nb_ 36 16383) rfl rfl (any_of HT_.out (by kernel_rfl)) ?_
          refine puz_ 14 (some 48) (nb_ 36 32767) rfl rfl (any_of HT_.out (by kernel_rfl)) ?_
          refine puz_ 15 (some 49) (nb_ 36 65535) rfl rfl (any_of HT_.out (by kernel_rfl)) ?_
          refine puz_ 16 (some 50) (nb_ 36 131071) rfl rfl (any_of HT_.out (by kernel_rfl)) ?_
          refine puz_ 17 (some 51) (nb_ 36 262143) rfl rfl (any_of HT_.out (by kernel_rfl)) ?_
          refine puz_ 18 (some 52) (nb_ 36 524287) rfl rfl (any_of HT_.out (by kernel_rfl)) ?_
          refine puz_ 19 (some 53) (nb_ 36 1048575) rfl rfl (any_of HT_.out (by kernel_rfl)) ?_
          refine puz_ 21 (some 55) (nb_ 36 3145727) rfl rfl (any_of HT_.out (by kernel_rfl)) ?_
          refine puz_ 22 (some 56) (nb_ 36 7340031) rfl rfl (any_of HT_.out (by kernel_rfl)) ?_
          refine puz_ 25 (some 59) (nb_ 36 40894463) rfl rfl (any_of HT_.out (by kernel_rfl)) ?_
          refine puz_ 26 (some 60) (nb_ 36 108003327) rfl rfl (any_of HT_.out (by kernel_rfl)) ?_
          refine puz_ 27 (some 61) (nb_ 36 242221055) rfl rfl (any_of HT_.out (by kernel_rfl)) ?_
          refine puz_ 29 (some 63) (nb_ 36 779091967) rfl rfl (any_of HT_.out (by kernel_rfl)) ?_
          refine tkz_ 20 (some 54) (nb_ 36 780140543) rfl rfl (take_ofW HT_.out HW_.out (by kernel_rfl)) hHeld ?_
          refine puz_ 23 (some 57) (nb_ 36 788529151) rfl rfl (any_of HT_.out (by kernel_rfl)) ?_
          refine tkz_ 24 (some 58) (nb_ 36 805306367) rfl rfl (take_ofW HT_.out HW_.out (by kernel_rfl)) hHeld ?_
          refine tkz_ 28 (some 62) (nb_ 36 1073741823) rfl rfl (take_ofW HT_.out HW_.out (by kernel_rfl)) hHeld ?_
          refine puz_ 30 (some 64) (nb_ 36 2147483647) rfl rfl (any_of HT_.out (by kernel_rfl)) ?_
          refine tkz_ 31 (some 65) (nb_ 36 4294967295) rfl rfl (take_ofW HT_.out HW_.out (by kernel_rfl)) hHeld ?_
          refine one_ (i := 32) (N := some 66) (nb_ 36 8589934591) rfl rfl (one_of HT_.out (by kernel_rfl)) (by decide) (fun K hK => ?_)
          refine goes_ Tryd.func51 (by kernel_rfl) rfl #[.agg #[.int .i64 ((rd_T52 l0_1 (ji13)).f0), .int .i64 ((rd_T52 l0_1 (ji13)).f1), .int .i64 ((rd_T52 l0_1 (ji13)).f2)], .agg #[.int .i64 ((rd_T52 l0_1 x3_2).f0), .int .i64 ((rd_T52 l0_1 x3_2).f1), .int .i64 ((rd_T52 l0_1 x3_2).f2)]] (by rfl) rfl rfl (by (try simp only [List.map_toArray, List.map_cons, List.map_nil]); first | done | (simp only [hji13]; rfl) | rfl | (simp only [List.length_drop, List.length_take]; rfl)) ?_
          with_reducible refine (spec_l30Less.calls ((rd_T52 l0_1 (ji13)).f0) ((rd_T52 l0_1 (ji13)).f1) ((rd_T52 l0_1 (ji13)).f2) ((rd_T52 l0_1 x3_2).f0) ((rd_T52 l0_1 x3_2).f1) ((rd_T52 l0_1 x3_2).f2) false _ A16.out).mono ?_
          rintro e w25 ⟨rfl, hb⟩
          refine ⟨_, rfl, ?_⟩
          have n0_ := Aside0.mk (blk_below (g := g0) (o := .cells #[.int .i64 a0_0, .slice (some ad244) l0_1.length c0_1] 26 (0, 0)) (bk_ BK0.out) hb)
          have n1_ := Aside0.mk (below_step (bl0_ HB.out) hb)
          clear BK0
          clear HB
          have BK0 := n0_
          have HB := n1_
          clear n0_ n1_
          (try clear hb)
          (try clear hb2)
          (try clear hk)
          (try clear hi)
          refine hK.out _ _ ⟨(blk_cell BK0.out 0).trans rfl, (blk_cell BK0.out 1).trans rfl, ((HB.out.cell (World.block_lt_of_cell? w _ hw244_0)).trans hw244_0), ((HB.out.cell (World.block_lt_of_cell? w _ hw244_1)).trans hw244_1), ((HB.out.cell (World.block_lt_of_cell? w _ hw244_2)).trans hw244_2), ((HB.out.cell (World.block_lt_of_cell? w _ hw246_0)).trans hw246_0), ((HB.out.cell (World.block_lt_of_cell? w _ hw246_1)).trans hw246_1), ((HB.out.cell (World.block_lt_of_cell? w _ hw246_2)).trans hw246_2), ((HB.out.cell (World.block_lt_of_cell? w _ hw247_0)).trans hw247_0), ((HB.out.cell (World.block_lt_of_cell? w _ hw247_1)).trans hw247_1), ((HB.out.cell (World.block_lt_of_cell? w _ hw247_2)).trans hw247_2)⟩ (fun hHeld => ?_)
          clear hK K
          refine norm_ (a' := ?_) ?_ ?_
          rotate_left
          ·show Act.put _ (some 66) _ = _
           simp only [Act.put, List.setIfInBounds_toArray, List.set_cons_zero, List.set_cons_succ, i64_w, i32_w]
           rfl
          refine puz_ 33 (some 67) (nb_ 36 17179869183) rfl rfl (any_of HT_.out (by kernel_rfl)) ?_
          refine puz_ 34 (some 68) (nb_ 36 34359738367) rfl rfl (any_of HT_.out (by kernel_rfl)) ?_
          refine puz_ 35 (some 69) (nb_ 36 68719476735) rfl rfl (any_of HT_.out (by kernel_rfl)) ?_
          refine done_ (done_of HT_.out (by kernel_rfl)) ?_
          try go_wp2
          go_ret
          exact ⟨by first | rfl | (simp [errW_none, errW_some] <;> rfl) | (simp only [← hji13]; first | rfl | (simp [errW_none, errW_some] <;> rfl)) | (simp [*, errW_none, errW_some] <;> rfl), bl0_ HB.out⟩
        ·rw [if_neg c12] at H
         have c12b0 : decide (0 < x3_2) = false := decide_eq_false c12
         clear c12
         have H' := Aside0.mk H
         clear H
         obtain ⟨hcz26_0, hcz26_1, hfz26_0, hfz26_1⟩ := cz2_ BK0.out
         try go_wp2
         have n0_ := Aside0.mk (blk_drew BK0.out)
         have n1_ := Aside0.mk (below_drew1 HB.out)
         clear BK0
         clear HB
         have BK0 := n0_
         have HB := n1_
         clear n0_ n1_
         have p244 : 0 ≤ (x3_2 : Int) := od_
         have q244 : x3_2 < (l0_1.length : Int) := od_
         obtain ⟨ad244, e244, hx244_0, hx244_1, hx244_2⟩ := at_T52 HR0_1.out x3_2 p244 q244
         have hw244_2 := hx244_2
         have hw244_1 := hx244_1
         have hw244_0 := hx244_0
         cases e244
         replace hx244_0 := (HB.out.cell (World.block_lt_of_cell? w _ hx244_0)).trans hx244_0
         replace hx244_1 := (HB.out.cell (World.block_lt_of_cell? w _ hx244_1)).trans hx244_1
         replace hx244_2 := (HB.out.cell (World.block_lt_of_cell? w _ hx244_2)).trans hx244_2
         replace p244 := eq_true p244
         replace q244 := eq_true q244
         refine start_ (n := 36) (S := fun w' => w'.cell? ⟨g0, 0, none⟩ = some (.int .i64 a0_0) ∧ w'.cell? ⟨g0, 1, none⟩ = some (.slice (some ad244) l0_1.length c0_1) ∧ w'.cell? (ad244.add ((x3_2).toNat * 3)) = some (.int .i64 ((rd_T52 l0_1 x3_2).f0)) ∧ w'.cell? ⟨(ad244.add ((x3_2).toNat * 3)).block, (ad244.add ((x3_2).toNat * 3)).off + 1, none⟩ = some (.int .i64 ((rd_T52 l0_1 x3_2).f1)) ∧ w'.cell? ⟨(ad244.add ((x3_2).toNat * 3)).block, (ad244.add ((x3_2).toNat * 3)).off + 2, none⟩ = some (.int .i64 ((rd_T52 l0_1 x3_2).f2))) (ds := []) (nb_ 36 0) (by kernel_rfl) rfl rfl ⟨(blk_cell BK0.out 0).trans rfl, (blk_cell BK0.out 1).trans rfl, ((HB.out.cell (World.block_lt_of_cell? w _ hw244_0)).trans hw244_0), ((HB.out.cell (World.block_lt_of_cell? w _ hw244_1)).trans hw244_1), ((HB.out.cell (World.block_lt_of_cell? w _ hw244_2)).trans hw244_2)⟩ (fun hHeld => ?_); refine with_tabW spec_l30Ok.tab6 spec_l30Ok.bits6 (fun HT_ HW_ => ?_)
         generalize wr.drew = w27 at BK0 HB hx244_0 hx244_1 hx244_2 hHeld ⊢
         refine puz_ 0 (some 34) (nb_ 36 1) rfl rfl (any_of HT_.out (by kernel_rfl)) ?_
         refine puz_ 1 (some 35) (nb_ 36 3) rfl rfl (any_of HT_.out (by kernel_rfl)) ?_
         refine puz_ 2 (some 36) (nb_ 36 7) rfl rfl (any_of HT_.out (by kernel_rfl)) ?_
         refine puz_ 4 (some 38) (nb_ 36 23) rfl rfl (any_of HT_.out (by kernel_rfl)) ?_
         refine puz_ 7 (some 41) (nb_ 36 151) rfl rfl (any_of HT_.out (by kernel_rfl)) ?_
         refine puz_ 8 (some 42) (nb_ 36 407) rfl rfl (any_of HT_.out (by kernel_rfl)) ?_
         refine puz_ 9 (some 43) (nb_ 36 919) rfl rfl (any_of HT_.out (by kernel_rfl)) ?_
         refine tkz_ 3 (some 37) (nb_ 36 927) rfl rfl (take_ofW HT_.out HW_.out (by kernel_rfl)) hHeld ?_
         refine puz_ 5 (some 39) (nb_ 36 959) rfl rfl (any_of HT_.out (by kernel_rfl)) ?_
         refine tkz_ 6 (some 40) (nb_ 36 1023) rfl rfl (take_ofW HT_.out HW_.out (by kernel_rfl)) hHeld ?_
         refine tkz_ 10 (some 44) (nb_ 36 2047) rfl rfl (take_ofW HT_.out HW_.out (by kernel_rfl)) hHeld ?_
         refine one_ (i := 11) (N := some 45) (nb_ 36 4095) rfl rfl (one_of HT_.out (by kernel_rfl)) (by decide) (fun K hK => ?_)
         refine goes_ Tryd.func63 (by kernel_rfl) rfl #[.agg #[.int .i64 ((rd_T52 l0_1 x3_2).f0), .int .i64 ((rd_T52 l0_1 x3_2).f1), .int .i64 ((rd_T52 l0_1 x3_2).f2)], .int .i64 a0_0] (by rfl) rfl rfl mp_ ?_
         with_reducible refine (spec_l30Edge.calls ((rd_T52 l0_1 x3_2).f0) ((rd_T52 l0_1 x3_2).f1) ((rd_T52 l0_1 x3_2).f2) a0_0 true _ A10.out).mono ?_
         rintro e w28 ⟨rfl, hb⟩
         refine ⟨_, rfl, ?_⟩
         have n0_ := Aside0.mk (blk_below (g := g0) (o := .cells #[.int .i64 a0_0, .slice (some ad244) l0_1.length c0_1] 26 (0, 0)) (bk_ BK0.out) hb)
         have n1_ := Aside0.mk (below_step (bl0_ HB.out) hb)
         clear BK0
         clear HB
         have BK0 := n0_
         have HB := n1_
         clear n0_ n1_
         (try clear hb)
         (try clear hb2)
         (try clear hk)
         (try clear hi)
         refine hK.out _ _ ⟨(blk_cell BK0.out 0).trans rfl, (blk_cell BK0.out 1).trans rfl, ((HB.out.cell (World.block_lt_of_cell? w _ hw244_0)).trans hw244_0), ((HB.out.cell (World.block_lt_of_cell? w _ hw244_1)).trans hw244_1), ((HB.out.cell (World.block_lt_of_cell? w _ hw244_2)).trans hw244_2)⟩ (fun hHeld => ?_)
         clear hK K
         refine norm_ (a' := ?_) ?_ ?_
         rotate_left
         ·show Act.put _ (some 45) _ = _
          simp only [Act.put, List.setIfInBounds_toArray, List.set_cons_zero, List.set_cons_succ, i64_w, i32_w]
          rfl
         refine puz_ 12 (some 46) (nb_ 36 8191) rfl rfl (any_of HT_.out (by kernel_rfl)) ?_
         refine puz_ 13 (some 47) (nb_ 36 16383) rfl rfl (any_of HT_.out (by kernel_rfl)) ?_
         refine puz_ 14 (some 48) (nb_ 36 32767) rfl rfl (any_of HT_.out (by kernel_rfl)) ?_
         refine puz_ 15 (some 49) (nb_ 36 65535) rfl rfl (any_of HT_.out (by kernel_rfl)) ?_
         refine puz_ 16 (some 50) (nb_ 36 131071) rfl rfl (any_of HT_.out (by kernel_rfl)) ?_
         refine puu_ 17 (some 51) (nb_ 36 262143) rfl rfl (any_of HT_.out (by kernel_rfl)) ?_
         refine puu_ 18 (some 52) (nb_ 36 524287) rfl rfl (any_of HT_.out (by kernel_rfl)) ?_
         refine puu_ 19 (some 53) (nb_ 36 1048575) rfl rfl (any_of HT_.out (by kernel_rfl)) ?_
         refine puu_ 20 (some 54) (nb_ 36 2097151) rfl rfl (any_of HT_.out (by kernel_rfl)) ?_
         refine puu_ 21 (some 55) (nb_ 36 4194303) rfl rfl (any_of HT_.out (by kernel_rfl)) ?_
         refine puu_ 22 (some 56) (nb_ 36 8388607) rfl rfl (any_of HT_.out (by kernel_rfl)) ?_
         refine puu_ 23 (some 57) (nb_ 36 16777215) rfl rfl (any_of HT_.out (by kernel_rfl)) ?_
         refine puu_ 24 (some 58) (nb_ 36 33554431) rfl rfl (any_of HT_.out (by kernel_rfl)) ?_
         refine puu_ 25 (some 59) (nb_ 36 67108863) rfl rfl (any_of HT_.out (by kernel_rfl)) ?_
         refine puu_ 26 (some 60) (nb_ 36 134217727) rfl rfl (any_of HT_.out (by kernel_rfl)) ?_
         refine puu_ 27 (some 61) (nb_ 36 268435455) rfl rfl (any_of HT_.out (by kernel_rfl)) ?_
         refine puu_ 28 (some 62) (nb_ 36 536870911) rfl rfl (any_of HT_.out (by kernel_rfl)) ?_
         refine puu_ 29 (some 63) (nb_ 36 1073741823) rfl rfl (any_of HT_.out (by kernel_rfl)) ?_
         refine puu_ 30 (some 64) (nb_ 36 2147483647) rfl rfl (any_of HT_.out (by kernel_rfl)) ?_
         refine puu_ 31 (some 65) (nb_ 36 4294967295) rfl rfl (any_of HT_.out (by kernel_rfl)) ?_
         refine puu_ 32 (some 66) (nb_ 36 8589934591) rfl rfl (any_of HT_.out (by kernel_rfl)) ?_
         refine puu_ 33 (some 67) (nb_ 36 17179869183) rfl rfl (any_of HT_.out (by kernel_rfl)) ?_
         refine puz_ 34 (some 68) (nb_ 36 34359738367) rfl rfl (any_of HT_.out (by kernel_rfl)) ?_
         refine puz_ 35 (some 69) (nb_ 36 68719476735) rfl rfl (any_of HT_.out (by kernel_rfl)) ?_
         refine done_ (done_of HT_.out (by kernel_rfl)) ?_
         try go_wp2
         go_roundg k2
         case measure => have := HJ1.out; have := HK2.out; omega
         case rel => exact ⟨(wrap64 (x3_2 + 1)), rs_, H', ⟨by have := HJ1.out; have := HK2.out; omega⟩, ⟨bk_ BK0.out⟩, ⟨bl0_ HB.out⟩⟩
       ·replace c11 := Bool.eq_false_iff.mpr c11
        subst c11
        have H1 : (some false) = some r := by rw [if_neg (show ¬ (false = true) by decide)] at H; exact H
        clear H
        have H := H1
        clear H1
        obtain rfl := Option.some.inj H
        obtain ⟨hcz29_0, hcz29_1, hfz29_0, hfz29_1⟩ := cz2_ BK0.out
        try go_wp2
        have n0_ := Aside0.mk (blk_drew BK0.out)
        have n1_ := Aside0.mk (below_drew1 HB.out)
        clear BK0
        clear HB
        have BK0 := n0_
        have HB := n1_
        clear n0_ n1_
        have p244 : 0 ≤ (x3_2 : Int) := od_
        have q244 : x3_2 < (l0_1.length : Int) := od_
        obtain ⟨ad244, e244, hx244_0, hx244_1, hx244_2⟩ := at_T52 HR0_1.out x3_2 p244 q244
        have hw244_2 := hx244_2
        have hw244_1 := hx244_1
        have hw244_0 := hx244_0
        cases e244
        replace hx244_0 := (HB.out.cell (World.block_lt_of_cell? w _ hx244_0)).trans hx244_0
        replace hx244_1 := (HB.out.cell (World.block_lt_of_cell? w _ hx244_1)).trans hx244_1
        replace hx244_2 := (HB.out.cell (World.block_lt_of_cell? w _ hx244_2)).trans hx244_2
        replace p244 := eq_true p244
        replace q244 := eq_true q244
        refine start_ (n := 36) (S := fun w' => w'.cell? ⟨g0, 0, none⟩ = some (.int .i64 a0_0) ∧ w'.cell? ⟨g0, 1, none⟩ = some (.slice (some ad244) l0_1.length c0_1) ∧ w'.cell? (ad244.add ((x3_2).toNat * 3)) = some (.int .i64 ((rd_T52 l0_1 x3_2).f0)) ∧ w'.cell? ⟨(ad244.add ((x3_2).toNat * 3)).block, (ad244.add ((x3_2).toNat * 3)).off + 1, none⟩ = some (.int .i64 ((rd_T52 l0_1 x3_2).f1)) ∧ w'.cell? ⟨(ad244.add ((x3_2).toNat * 3)).block, (ad244.add ((x3_2).toNat * 3)).off + 2, none⟩ = some (.int .i64 ((rd_T52 l0_1 x3_2).f2))) (ds := []) (nb_ 36 0) (by kernel_rfl) rfl rfl ⟨(blk_cell BK0.out 0).trans rfl, (blk_cell BK0.out 1).trans rfl, ((HB.out.cell (World.block_lt_of_cell? w _ hw244_0)).trans hw244_0), ((HB.out.cell (World.block_lt_of_cell? w _ hw244_1)).trans hw244_1), ((HB.out.cell (World.block_lt_of_cell? w _ hw244_2)).trans hw244_2)⟩ (fun hHeld => ?_); refine with_tabW spec_l30Ok.tab6 spec_l30Ok.bits6 (fun HT_ HW_ => ?_)
        generalize wr.drew = w30 at BK0 HB hx244_0 hx244_1 hx244_2 hHeld ⊢
        refine puz_ 0 (some 34) (nb_ 36 1) rfl rfl (any_of HT_.out (by kernel_rfl)) ?_
        refine puz_ 1 (some 35) (nb_ 36 3) rfl rfl (any_of HT_.out (by kernel_rfl)) ?_
        refine puz_ 2 (some 36) (nb_ 36 7) rfl rfl (any_of HT_.out (by kernel_rfl)) ?_
        refine puz_ 4 (some 38) (nb_ 36 23) rfl rfl (any_of HT_.out (by kernel_rfl)) ?_
        refine puz_ 7 (some 41) (nb_ 36 151) rfl rfl (any_of HT_.out (by kernel_rfl)) ?_
        refine puz_ 8 (some 42) (nb_ 36 407) rfl rfl (any_of HT_.out (by kernel_rfl)) ?_
        refine puz_ 9 (some 43) (nb_ 36 919) rfl rfl (any_of HT_.out (by kernel_rfl)) ?_
        refine tkz_ 3 (some 37) (nb_ 36 927) rfl rfl (take_ofW HT_.out HW_.out (by kernel_rfl)) hHeld ?_
        refine puz_ 5 (some 39) (nb_ 36 959) rfl rfl (any_of HT_.out (by kernel_rfl)) ?_
        refine tkz_ 6 (some 40) (nb_ 36 1023) rfl rfl (take_ofW HT_.out HW_.out (by kernel_rfl)) hHeld ?_
        refine tkz_ 10 (some 44) (nb_ 36 2047) rfl rfl (take_ofW HT_.out HW_.out (by kernel_rfl)) hHeld ?_
        refine one_ (i := 11) (N := some 45) (nb_ 36 4095) rfl rfl (one_of HT_.out (by kernel_rfl)) (by decide) (fun K hK => ?_)
        refine goes_ Tryd.func63 (by kernel_rfl) rfl #[.agg #[.int .i64 ((rd_T52 l0_1 x3_2).f0), .int .i64 ((rd_T52 l0_1 x3_2).f1), .int .i64 ((rd_T52 l0_1 x3_2).f2)], .int .i64 a0_0] (by rfl) rfl rfl mp_ ?_
        with_reducible refine (spec_l30Edge.calls ((rd_T52 l0_1 x3_2).f0) ((rd_T52 l0_1 x3_2).f1) ((rd_T52 l0_1 x3_2).f2) a0_0 false _ A10.out).mono ?_
        rintro e w31 ⟨rfl, hb⟩
        refine ⟨_, rfl, ?_⟩
        have n0_ := Aside0.mk (blk_below (g := g0) (o := .cells #[.int .i64 a0_0, .slice (some ad244) l0_1.length c0_1] 26 (0, 0)) (bk_ BK0.out) hb)
        have n1_ := Aside0.mk (below_step (bl0_ HB.out) hb)
        clear BK0
        clear HB
        have BK0 := n0_
        have HB := n1_
        clear n0_ n1_
        (try clear hb)
        (try clear hb2)
        (try clear hk)
        (try clear hi)
        refine hK.out _ _ ⟨(blk_cell BK0.out 0).trans rfl, (blk_cell BK0.out 1).trans rfl, ((HB.out.cell (World.block_lt_of_cell? w _ hw244_0)).trans hw244_0), ((HB.out.cell (World.block_lt_of_cell? w _ hw244_1)).trans hw244_1), ((HB.out.cell (World.block_lt_of_cell? w _ hw244_2)).trans hw244_2)⟩ (fun hHeld => ?_)
        clear hK K
        refine norm_ (a' := ?_) ?_ ?_
        rotate_left
        ·show Act.put _ (some 45) _ = _
         simp only [Act.put, List.setIfInBounds_toArray, List.set_cons_zero, List.set_cons_succ, i64_w, i32_w]
         rfl
        refine puz_ 12 (some 46) (nb_ 36 8191) rfl rfl (any_of HT_.out (by kernel_rfl)) ?_
        refine puz_ 13 (some 47) (nb_ 36 16383) rfl rfl (any_of HT_.out (by kernel_rfl)) ?_
        refine puu_ 14 (some 48) (nb_ 36 32767) rfl rfl (any_of HT_.out (by kernel_rfl)) ?_
        refine puu_ 15 (some 49) (nb_ 36 65535) rfl rfl (any_of HT_.out (by kernel_rfl)) ?_
        refine puu_ 16 (some 50) (nb_ 36 131071) rfl rfl (any_of HT_.out (by kernel_rfl)) ?_
        refine puu_ 17 (some 51) (nb_ 36 262143) rfl rfl (any_of HT_.out (by kernel_rfl)) ?_
        refine puu_ 18 (some 52) (nb_ 36 524287) rfl rfl (any_of HT_.out (by kernel_rfl)) ?_
        refine puu_ 19 (some 53) (nb_ 36 1048575) rfl rfl (any_of HT_.out (by kernel_rfl)) ?_
        refine puu_ 20 (some 54) (nb_ 36 2097151) rfl rfl (any_of HT_.out (by kernel_rfl)) ?_
        refine puu_ 21 (some 55) (nb_ 36 4194303) rfl rfl (any_of HT_.out (by kernel_rfl)) ?_
        refine puu_ 22 (some 56) (nb_ 36 8388607) rfl rfl (any_of HT_.out (by kernel_rfl)) ?_
        refine puu_ 23 (some 57) (nb_ 36 16777215) rfl rfl (any_of HT_.out (by kernel_rfl)) ?_
        refine puu_ 24 (some 58) (nb_ 36 33554431) rfl rfl (any_of HT_.out (by kernel_rfl)) ?_
        refine puu_ 25 (some 59) (nb_ 36 67108863) rfl rfl (any_of HT_.out (by kernel_rfl)) ?_
        refine puu_ 26 (some 60) (nb_ 36 134217727) rfl rfl (any_of HT_.out (by kernel_rfl)) ?_
        refine puu_ 27 (some 61) (nb_ 36 268435455) rfl rfl (any_of HT_.out (by kernel_rfl)) ?_
        refine puu_ 28 (some 62) (nb_ 36 536870911) rfl rfl (any_of HT_.out (by kernel_rfl)) ?_
        refine puu_ 29 (some 63) (nb_ 36 1073741823) rfl rfl (any_of HT_.out (by kernel_rfl)) ?_
        refine puu_ 30 (some 64) (nb_ 36 2147483647) rfl rfl (any_of HT_.out (by kernel_rfl)) ?_
        refine puu_ 31 (some 65) (nb_ 36 4294967295) rfl rfl (any_of HT_.out (by kernel_rfl)) ?_
        refine puu_ 32 (some 66) (nb_ 36 8589934591) rfl rfl (any_of HT_.out (by kernel_rfl)) ?_
        refine puu_ 33 (some 67) (nb_ 36 17179869183) rfl rfl (any_of HT_.out (by kernel_rfl)) ?_
        refine puu_ 34 (some 68) (nb_ 36 34359738367) rfl rfl (any_of HT_.out (by kernel_rfl)) ?_
        refine puz_ 35 (some 69) (nb_ 36 68719476735) rfl rfl (any_of HT_.out (by kernel_rfl)) ?_
        refine done_ (done_of HT_.out (by kernel_rfl)) ?_
        try go_wp2
        go_ret
        exact ⟨re_, bl0_ HB.out⟩
      ·rw [if_neg c8] at H
       have c8b0 := decide_eq_false c8
       clear c8
       replace H := Option.bind_eq_some_iff.mp H
       obtain ⟨⟨t237, t240⟩, A320, H⟩ := H
       replace H : ((spec_l00Has.f k2 t237 (-1)).bind fun t243 => (some (!t243))) = some r := H
       have A32 := Aside0.mk A320
       clear A320
       replace H := Option.bind_eq_some_iff.mp H
       obtain ⟨t243, A330, H⟩ := H
       replace H : (some (!t243)) = some r := H
       have A33 := Aside0.mk A330
       clear A330
       obtain rfl := Option.some.inj H
       obtain ⟨hcz34_0, hcz34_1, hfz34_0, hfz34_1⟩ := cz2_ BK0.out
       go_wp2_with (first | ((with_reducible refine gate_callee (f := 64) rfl ?_); refine goesL_ (some 72) rfl rfl Tryd.func64 (by kernel_rfl) rfl #[.pointer (some ⟨g0, 0, none⟩), .int .i64 0] rfl mp_ ?_; (with_reducible refine (spec_l30Reach.calls k2 g0 a0_0 A0_1 c0_1 l0_1 0 t237 t240 _ ?side1 ?side2 ?side3 A32.out).mono ?_); (case side1 => exact by (with_reducible repeat (first | refine blk_drewN ?_ _ | refine blk_drew ?_ | refine blk_alloc ?_ _)); exact BK0.out); (case side2 => exact ca_ (Kd.C_below HR0_1.out HB.out)); (case side3 => exact HC0_1.out); rintro e w35 ⟨v238, v241, rfl, ho0, ho1, hb⟩; refine ⟨_, rfl, ?_⟩; have n0_ := Aside0.mk (Kd.R_lower ho0 (below_size (bl0_ HB.out))); have n1_ := Aside0.mk (Kd.R_lower ho1 (below_size (bl0_ HB.out))); have n2_ := Aside0.mk (blk_below (g := g0) (o := .cells #[.int .i64 a0_0, .slice A0_1 l0_1.length c0_1] 26 (0, 0)) (bk_ BK0.out) hb); have n3_ := Aside0.mk (below_step (bl0_ HB.out) hb); clear BK0; clear HB; have HO239 := n0_; have HO242 := n1_; have BK0 := n2_; have HB := n3_; clear n0_ n1_ n2_ n3_; (try clear hb); (try clear hb2); (try clear hk); (try clear hi); (try clear ho0); (try clear ho1); obtain ⟨Ao36, co36, eo36⟩ := Kd.R_slice HO239.out; subst eo36) | ((with_reducible refine gate_callee (f := 65) rfl ?_); refine goesL_ (some 76) rfl rfl Tryd.func65 (by kernel_rfl) rfl #[.slice Ao36 t237.length co36, .int .i64 (-1)] rfl mp_ ?_; (with_reducible refine (spec_l00Has.calls k2 _ _ t237 (-1) t243 _ ?side1 ?side2 A33.out).mono ?_); (case side1 => exact ca_ (Kd.R_reads' HO239.out).2.2); (case side2 => exact (Kd.R_reads' HO239.out).2.1); rintro e w' ⟨rfl, ⟨nd, rfl⟩⟩; refine ⟨_, rfl, ?_⟩))
       go_ret
       exact ⟨re_, bl0_ HB.out⟩

end Go.Proofs.YtddaiabilhjcpaaDoor.A
