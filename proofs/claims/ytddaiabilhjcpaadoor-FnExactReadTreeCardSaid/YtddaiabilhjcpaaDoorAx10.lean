/- For functions of the translation: a Lean function each, and that the call of the Go function comes to its answer. Written by this session's own program (myprint.py, over the kit's printer). -/
import Derived.Test.YtddaiabilhjcpaaDoorAx0
import Derived.Test.YtddaiabilhjcpaaDoorAx5
import Derived.Test.YtddaiabilhjcpaaDoorAx6
import Derived.Test.YtddaiabilhjcpaaDoorAx9
--compacted
namespace Go.Proofs.YtddaiabilhjcpaaDoor.A
open Go.RowKit Go.Proofs.YtddaiabilhjcpaaDoorW.PrintWords Go.Proofs.YtddaiabilhjcpaaDoorW.PrintLast Go.Proofs.YtddaiabilhjcpaaDoorW.PrintMore
attribute [local go_sem] max2_int min2_int max_two min_two max_three min_three max_four min_four   -- for this text's walks alone
set_option linter.unusedVariables false
set_option linter.unusedSimpArgs false

/-! ### spec_ReadTree: function 15 -/
mutual
def spec_ReadTree.l0 : Nat → ByteArray → List ByteArray → Int → Int → List (S52) → Option (Int × (List (S52)) × Bool)
 | 0, _, _, _, _, _ => none
 | k + 1, x0, x4, x6, x275000, x275001 => if x6 < (x4.length : Int) then (spec_ReadTree.j1 k x0 x4 x6 (decide (x6 < 17)) x275000 x275001) else (spec_ReadTree.j1 k x0 x4 x6 false x275000 x275001)
def spec_ReadTree.j1 : Nat → ByteArray → List ByteArray → Int → Bool → Int → List (S52) → Option (Int × (List (S52)) × Bool)
 | 0, _, _, _, _, _, _ => none
 | k + 1, x0, x4, x6, x23, x275000, x275001 => if x23 = true then (if 0 ≤ x6 then (if x6 < (x4.length : Int) then ((spec_l02Split.f k (rdOf ByteArray.empty x4 x6) 58).bind fun t277 => (if 0 < (t277.length : Int) then ((spec_l02Split.f k (rdOf ByteArray.empty t277 0) 45).bind fun t281 => (if (t277.length : Int) = 2 then (spec_ReadTree.j2 k x0 x4 x6 t277 t281 ((t281.length : Int) != 2) x275000 x275001) else (spec_ReadTree.j2 k x0 x4 x6 t277 t281 true x275000 x275001))) else (none))) else (none)) else (none)) else (if x0.toList = ([] : List UInt8) then (some (0, ([] : List (S52)), false)) else ((spec_TreeText.f k x275000 x275001).bind fun t275 => (if t275.toList = x0.toList then (some (x275000, x275001, true)) else (some (0, ([] : List (S52)), false)))))
def spec_ReadTree.j2 : Nat → ByteArray → List ByteArray → Int → List ByteArray → List ByteArray → Bool → Int → List (S52) → Option (Int × (List (S52)) × Bool)
 | 0, _, _, _, _, _, _, _, _ => none
 | k + 1, x0, x4, x6, x7, x8, x42, x275000, x275001 => if x42 = true then (some (0, ([] : List (S52)), false)) else (if 0 < (x8.length : Int) then ((spec_l27Number.f k (rdOf ByteArray.empty x8 0)).bind fun t285 => (if 1 < (x8.length : Int) then ((spec_l27Number.f k (rdOf ByteArray.empty x8 1)).bind fun t287 => (if 1 < (x7.length : Int) then ((spec_l27Number.f k (rdOf ByteArray.empty x7 1)).bind fun t289 => (if x275001.length < 5864062014805 then (spec_ReadTree.l0 k x0 x4 (wrap64 (x6 + 1)) x275000 (x275001 ++ [(⟨t285, t287, t289⟩ : S52)])) else (none))) else (none))) else (none))) else (none))
end
def spec_ReadTree.f (k : Nat) (a0 : ByteArray) : Option (Int × (List (S52)) × Bool) := (spec_l02Split.f k a0 32).bind fun t269 => (if 0 < (t269.length : Int) then ((spec_l27Number.f k (rdOf ByteArray.empty t269 0)).bind fun t273 => (spec_ReadTree.l0 k a0 t269 1 t273 ([] : List (S52)))) else (none))
theorem spec_ReadTree.mono_l : ∀ k, (∀ y0 y1 y2 y3 y4, LeO (spec_ReadTree.l0 k y0 y1 y2 y3 y4) (spec_ReadTree.l0 (k + 1) y0 y1 y2 y3 y4)) ∧ (∀ y0 y1 y2 y3 y4 y5, LeO (spec_ReadTree.j1 k y0 y1 y2 y3 y4 y5) (spec_ReadTree.j1 (k + 1) y0 y1 y2 y3 y4 y5)) ∧ (∀ y0 y1 y2 y3 y4 y5 y6 y7, LeO (spec_ReadTree.j2 k y0 y1 y2 y3 y4 y5 y6 y7) (spec_ReadTree.j2 (k + 1) y0 y1 y2 y3 y4 y5 y6 y7))
 | 0 => ⟨fun _ _ _ _ _ r h => by simp [spec_ReadTree.l0] at h, fun _ _ _ _ _ _ r h => by simp [spec_ReadTree.j1] at h, fun _ _ _ _ _ _ _ _ r h => by simp [spec_ReadTree.j2] at h⟩
 | k + 1 => by
  obtain ⟨ih0, ih1, ih2⟩ := spec_ReadTree.mono_l k
  refine ⟨?_, ?_, ?_⟩
  ·intro y0 y1 y2 y3 y4
   unfold spec_ReadTree.l0
   repeat' first
   | (with_reducible exact ih0 _ _ _ _ _)
   | (with_reducible exact ih1 _ _ _ _ _ _)
   | (with_reducible exact ih2 _ _ _ _ _ _ _ _)
   | (with_reducible exact spec_TreeText.mono _ _ _)
   | (with_reducible exact spec_l02Split.mono _ _ _)
   | (with_reducible exact spec_l27Number.mono _ _)
   | (with_reducible exact LeO.refl _)
   | (with_reducible exact LeO.none _)
   | (with_reducible refine LeO.ite ?_ ?_)
   | (with_reducible refine LeO.bind ?_ (fun _ => ?_))
   | exact spec_TreeText.mono _ _ _
   | exact spec_l02Split.mono _ _ _
   | exact spec_l27Number.mono _ _
   | exact LeO.none _
   | refine LeO.ite ?_ ?_
   | refine LeO.bind ?_ (fun _ => ?_)
  ·intro y0 y1 y2 y3 y4 y5
   unfold spec_ReadTree.j1
   repeat' first
   | (with_reducible exact ih0 _ _ _ _ _)
   | (with_reducible exact ih1 _ _ _ _ _ _)
   | (with_reducible exact ih2 _ _ _ _ _ _ _ _)
   | (with_reducible exact spec_TreeText.mono _ _ _)
   | (with_reducible exact spec_l02Split.mono _ _ _)
   | (with_reducible exact spec_l27Number.mono _ _)
   | (with_reducible exact LeO.refl _)
   | (with_reducible exact LeO.none _)
   | (with_reducible refine LeO.ite ?_ ?_)
   | (with_reducible refine LeO.bind ?_ (fun _ => ?_))
   | exact spec_TreeText.mono _ _ _
   | exact spec_l02Split.mono _ _ _
   | exact spec_l27Number.mono _ _
   | exact LeO.none _
   | refine LeO.ite ?_ ?_
   | refine LeO.bind ?_ (fun _ => ?_)
  ·intro y0 y1 y2 y3 y4 y5 y6 y7
   unfold spec_ReadTree.j2
   repeat' first
   | (with_reducible exact ih0 _ _ _ _ _)
   | (with_reducible exact ih1 _ _ _ _ _ _)
   | (with_reducible exact ih2 _ _ _ _ _ _ _ _)
   | (with_reducible exact spec_TreeText.mono _ _ _)
   | (with_reducible exact spec_l02Split.mono _ _ _)
   | (with_reducible exact spec_l27Number.mono _ _)
   | (with_reducible exact LeO.refl _)
   | (with_reducible exact LeO.none _)
   | (with_reducible refine LeO.ite ?_ ?_)
   | (with_reducible refine LeO.bind ?_ (fun _ => ?_))
   | exact spec_TreeText.mono _ _ _
   | exact spec_l02Split.mono _ _ _
   | exact spec_l27Number.mono _ _
   | exact LeO.none _
   | refine LeO.ite ?_ ?_
   | refine LeO.bind ?_ (fun _ => ?_)
theorem spec_ReadTree.mono : ∀ a0 k, LeO (spec_ReadTree.f k a0) (spec_ReadTree.f (k + 1) a0) := by
 intro a0 k
 obtain ⟨ih0, ih1, ih2⟩ := spec_ReadTree.mono_l k
 unfold spec_ReadTree.f
 repeat' first
   | (with_reducible exact ih0 _ _ _ _ _)
   | (with_reducible exact ih1 _ _ _ _ _ _)
   | (with_reducible exact ih2 _ _ _ _ _ _ _ _)
   | (with_reducible exact spec_TreeText.mono _ _ _)
   | (with_reducible exact spec_l02Split.mono _ _ _)
   | (with_reducible exact spec_l27Number.mono _ _)
   | (with_reducible exact LeO.refl _)
   | (with_reducible exact LeO.none _)
   | (with_reducible refine LeO.ite ?_ ?_)
   | (with_reducible refine LeO.bind ?_ (fun _ => ?_))
   | exact spec_TreeText.mono _ _ _
   | exact spec_l02Split.mono _ _ _
   | exact spec_l27Number.mono _ _
   | exact LeO.none _
   | refine LeO.ite ?_ ?_
   | refine LeO.bind ?_ (fun _ => ?_)
def spec_ReadTree.T10 : Bool × List (List Nat × List Nat) := (true, [([], []), ([0], [0]), ([], []), ([2], [2]), ([3], [3]), ([4], [4]), ([], []), ([6], [6]), ([7], [7]), ([8, 5], [8]), ([], []), ([10], [10]), ([11], [11]), ([12, 9], [12]), ([5, 9, 13], [5, 9, 13]), ([14], [14]), ([1, 15, 13], [1, 15]), ([0, 1, 2, 3, 4, 5, 6, 7, 8, 9, 10, 11, 12, 13, 14, 15, 16], []), ([17, 16, 16, 0, 1, 2, 3, 4, 5, 6, 7, 8, 9, 10, 11, 12, 13, 14, 15, 16], [16, 17])])
def spec_ReadTree.B10 : List Nat := [0, 1, 0, 4, 12, 28, 0, 64, 192, 508, 0, 1024, 3072, 8188, 16380, 32764, 65535, 131071, 262143]
theorem spec_ReadTree.tab10 : rtab .any (opsOf Tryd.f15 10) = spec_ReadTree.T10 := by kernel_rfl
theorem spec_ReadTree.bits10 : waitsOk spec_ReadTree.T10.2 spec_ReadTree.B10 = true := by kernel_rfl
set_option maxHeartbeats 8000000 in
set_option maxRecDepth 100000 in
theorem spec_ReadTree.calls (k : Nat) (a0 : ByteArray) (r1 : Int) (r2 : List (S52)) (r3 : Bool) (w : World) (h : spec_ReadTree.f k a0 = some (r1, r2, r3)) :
  Calls Tryd.prog 15 #[.string a0] w fun e w' => ∃ v1_ : Value, e = .returned (.tuple #[.agg #[.int .i64 r1, v1_], .bool r3]) ∧ Kd.R k52 52 w' w.heap.size (fun _ => True) v1_ r2 ∧ Below w.heap.size w w' := by
 have hu26 := Tryd.underlying26
 have hu52 := Tryd.underlying52
 have HB := Aside0.mk (Below.refl w.heap.size w)
 have H : ((spec_l02Split.f k a0 32).bind fun t269 => (if 0 < (t269.length : Int) then ((spec_l27Number.f k (rdOf ByteArray.empty t269 0)).bind fun t273 => (spec_ReadTree.l0 k a0 t269 1 t273 ([] : List (S52)))) else (none))) = some (r1, r2, r3) := h
 clear h
 replace H := Option.bind_eq_some_iff.mp H
 obtain ⟨t269, A20, H⟩ := H
 replace H : (if 0 < (t269.length : Int) then ((spec_l27Number.f k (rdOf ByteArray.empty t269 0)).bind fun t273 => (spec_ReadTree.l0 k a0 t269 1 t273 ([] : List (S52)))) else (none)) = some (r1, r2, r3) := H
 have A2 := Aside0.mk A20
 clear A20
 by_cases c3 : 0 < (t269.length : Int)
 rotate_left
 ·exact nope_ c3 H
 rw [if_pos c3] at H
 have c3b0 := decide_eq_true c3
 have c3b1 : decide (0 < t269.length) = true := decide_eq_true (by omega)
 clear c3
 replace H := Option.bind_eq_some_iff.mp H
 obtain ⟨t273, A40, H⟩ := H
 replace H : (spec_ReadTree.l0 k a0 t269 1 t273 ([] : List (S52))) = some (r1, r2, r3) := H
 have A4 := Aside0.mk A40
 clear A40
 have H' := Aside0.mk H
 clear H
 go_enter Tryd.func15, Tryd.ntmps15
 go_wp2_with (first | ((with_reducible refine gate_dst (N := 2) rfl ?_); (try (refine gate_guard (by rfl) ?_; dsimp only)); refine box_event ?hg (N := 2) ?hd (cs := #[.int .i64 0, .slice none 0 0]) (t := 26) ?hr ?_; (case hd => rfl); (case hg => rfl); (case hr => first | (go_simp; done) | (go_simp; rfl)); intro gb268 hg w5 hbox hb; have n0_ := Aside0.mk (below_step (bl0_ HB.out) hb); have n1_ := Aside0.mk (hbox); have n2_ := Aside0.mk ((by rw [hg]; exact (below_size (bl0_ HB.out)) : w.heap.size ≤ gb268)); have n3_ := Aside0.mk ((by rw [hg]; exact (below_size (bl0_ HB.out)) : w.heap.size ≤ gb268)); clear HB; have HB := n0_; have BK268 := n1_; have GW268 := n2_; have GE268 := n3_; clear n0_ n1_ n2_ n3_; clear hb hbox hg) | ((with_reducible refine gate_callee (f := 31) rfl ?_); refine goesL_ (some 10) rfl rfl Tryd.func31 (by kernel_rfl) rfl #[.string a0, .int .u8 32] rfl mp_ ?_; (with_reducible refine (spec_l02Split.calls k a0 32 t269 _ A2.out).mono ?_); rintro e w6 ⟨v270, rfl, ho0, hb⟩; refine ⟨_, rfl, ?_⟩; have n0_ := Aside0.mk (Kd.R_lower ho0 (below_size (bl1_ HB.out GE268.out))); have n1_ := Aside0.mk (blk_below (g := gb268) (o := .cells #[.int .i64 0, .slice none 0 0] 26 (0, 0)) (bk_ BK268.out) hb); have n2_ := Aside0.mk (below_step (bl1_ HB.out GE268.out) hb); clear BK268; clear HB; have HO271 := n0_; have BK268 := n1_; have HB := n2_; clear n0_ n1_ n2_; (try clear hb); (try clear hb2); (try clear hk); (try clear hi); (try clear ho0); obtain ⟨Ao7, co7, eo7⟩ := Kd.R_slice HO271.out; subst eo7; have p272 : 0 ≤ (0 : Int) := (by omega); have q272 : 0 < (t269.length : Int) := od_; obtain ⟨ad272, e272, hx272_0⟩ := Kd.at_string (Kd.R_reads' HO271.out).2.2 0 p272 q272; cases e272; have qi272 : (0 < t269.length) = True := eq_true (by omega); (try rw [show ((0 : Int)).toNat = 0 from rfl] at hx272_0); (try rw [Addr.add_zero'] at hx272_0); replace p272 := eq_true p272; replace q272 := eq_true q272) | ((with_reducible refine gate_callee (f := 32) rfl ?_); refine goesL_ (some 14) rfl rfl Tryd.func32 (by kernel_rfl) rfl #[.string (rdOf ByteArray.empty t269 0)] rfl mp_ ?_; (with_reducible refine (spec_l27Number.calls k (rdOf ByteArray.empty t269 0) t273 _ A4.out).mono ?_); rintro e w' ⟨rfl, ⟨nd, rfl⟩⟩; refine ⟨_, rfl, ?_⟩; (try (rw [drewN_self w6]; generalize hq_ : World.drewN w6 _ = w6; have n0_ : Aside0 (Kd.R Kd.string 9 w6 w.heap.size (fun k_ => True) (.slice (some ad272) t269.length co7) t269) := ⟨by rw [← hq_]; exact (ra_ HO271.out)⟩; have n1_ : Aside0 (w6.heap[gb268]? = some (.cells #[.int .i64 0, .slice none 0 0] 26 (0, 0))) := ⟨by rw [← hq_]; exact (bk_ BK268.out)⟩; have n2_ : Aside0 (Below w.heap.size w w6) := ⟨by rw [← hq_]; exact (bl1_ HB.out GE268.out)⟩; clear HO271 BK268 HB hq_; have HO271 := n0_; have BK268 := n1_; have HB := n2_; clear n0_ n1_ n2_))) | ((with_reducible refine gate_dst (N := 5) rfl ?_); (try (refine gate_guard (by rfl) ?_; dsimp only)); refine box_event ?hg (N := 5) ?hd (cs := #[.int .i64 0, .slice none 0 0]) (t := 26) ?hr ?_; (case hd => rfl); (case hg => rfl); (case hr => first | (go_simp; done) | (go_simp; rfl)); intro gb274 hg w8 hbox hb; have n0_ := Aside0.mk (Kd.R_below (ra_ HO271.out) hb); have n1_ := Aside0.mk (blk_below (g := gb268) (o := .cells #[.int .i64 0, .slice none 0 0] 26 (0, 0)) (bk_ BK268.out) hb); have n2_ := Aside0.mk (below_step (bl1_ HB.out GE268.out) hb); have n3_ := Aside0.mk (hbox); have n4_ := Aside0.mk ((by rw [hg]; exact (below_size (bl1_ HB.out GE268.out)) : w.heap.size ≤ gb274)); have n5_ := Aside0.mk ((by rw [hg]; exact (below_size (bl1_ HB.out GE268.out)) : w.heap.size ≤ gb274)); have n6_ := Aside0.mk ((by rw [hg]; exact Nat.ne_of_lt (blk_lt (bk_ BK268.out)) : gb268 ≠ gb274)); have n7_ := Aside0.mk ((by rw [hg]; exact Nat.ne_of_gt (blk_lt (bk_ BK268.out)) : gb274 ≠ gb268)); clear HO271; clear BK268; clear HB; have HO271 := n0_; have BK268 := n1_; have HB := n2_; have BK274 := n3_; have GW274 := n4_; have GE274 := n5_; have NB268_274 := n6_; have NB274_268 := n7_; clear n0_ n1_ n2_ n3_ n4_ n5_ n6_ n7_; clear hb hbox hg; have hnb9 := NB274_268.out; have hnc9 := NB268_274.out; obtain ⟨hcz10_0, hcz10_1, hfz10_0, hfz10_1⟩ := cz2_ BK274.out))
 go_loopg [6] k (fun kq v6 w' => ∃ (x6_1 : Int) (x269000_1 : Int) (x275001_1 : List (S52)) (u275001 : Value), v6 = .int .i64 x6_1 ∧ Aside0 (spec_ReadTree.l0 kq a0 t269 x6_1 t273 x275001_1 = some (r1, r2, r3)) ∧ Aside0 (kq ≤ k) ∧ Aside0 (Kd.R Kd.string 9 w' w.heap.size (fun _ => True) (.slice (some ad272) t269.length co7) t269) ∧ Aside0 (Kd.R k52 52 w' w.heap.size (fun _ => True) u275001 x275001_1) ∧ Aside0 (w'.heap[gb268]? = some (.cells #[.int .i64 x269000_1, (.slice none 0 0)] 26 (0, 0))) ∧ Aside0 (w'.heap[gb274]? = some (.cells #[.int .i64 t273, u275001] 26 (0, 0))) ∧ Aside0 (Below w.heap.size w w'))
 case atStart => exact ⟨(1), (0), (([] : List (S52))), (.slice none 0 0), rs_, H', ⟨Nat.le_refl _⟩, ⟨by (with_reducible repeat (first | apply Kd.R_alloc | apply Kd.R_drewN | apply Kd.R_drew)); exact Kd.R_mono (Kd.R_far (p := ⟨gb274, 1, none⟩) (Kd.R_far (p := ⟨gb274, 0, none⟩) (Kd.R_types HO271.out BK274.out (by decide)) (fun _ hk => hk.2) (.int .i64 t273)) (fun _ hk => hk.2) (.slice none 0 0)) (fun _ hk => trivial)⟩, ⟨by first | exact Kd.R_nil _ _ _ _ _ | exact Kd.N_nil _ _ _ _ _ | exact Kd.V_nil _ _ _ _ _ | exact Kd.Q_nil _ _ _ _ _ | exact Kd.S_nil _ _ _ _ _⟩, ⟨by (with_reducible repeat (first | refine blk_drewN ?_ _ | refine blk_drew ?_ | refine blk_alloc ?_ _)); refine blk_far ?_ NB268_274.out _; (with_reducible repeat (first | refine blk_drewN ?_ _ | refine blk_drew ?_ | refine blk_alloc ?_ _)); refine blk_far ?_ NB268_274.out _; (with_reducible repeat (first | refine blk_drewN ?_ _ | refine blk_drew ?_ | refine blk_alloc ?_ _)); exact BK268.out⟩, ⟨by (with_reducible repeat (first | refine blk_drewN ?_ _ | refine blk_drew ?_ | refine blk_alloc ?_ _)); refine blk_put (cs := #[.int .i64 t273, .slice none 0 0]) ?_ 1 _ rfl; (with_reducible repeat (first | refine blk_drewN ?_ _ | refine blk_drew ?_ | refine blk_alloc ?_ _)); refine blk_put (cs := #[.int .i64 0, .slice none 0 0]) ?_ 0 _ rfl; (with_reducible repeat (first | refine blk_drewN ?_ _ | refine blk_drew ?_ | refine blk_alloc ?_ _)); exact BK274.out⟩, ⟨bl2_ HB.out GE268.out GE274.out⟩⟩
 case round =>
  clear H'
  try clear c1
  try clear p2
  try clear q2
  try clear hx2
  try clear qi2
  try clear c3
  try clear c3b0
  try clear c3b1
  try clear c9
  try clear hcz10_0
  try clear hcz10_1
  try clear hfz10_0
  try clear hfz10_1
  try clear hx272_0
  try clear p272
  try clear q272
  obtain ⟨x6_1, x269000_1, x275001_1, u275001, rfl, HA, HK1, HO_4, HO_275001, BK268, BK274, HB⟩ := hrel
  cases gk with
  | zero => exact absurd HA.out (by simp [spec_ReadTree.l0])
  | succ k1 =>
   have H := HA.out
   clear HA
   simp only [spec_ReadTree.l0] at H
   have HC11 := Aside0.mk H
   clear H
   go_upto_region 4 with (fail)
   go_cut [23] (fun v23 wc => ∃ (kq : Nat) (x23_10 : Bool), v23 = .bool x23_10 ∧ Aside0 (spec_ReadTree.j1 kq a0 t269 x6_1 x23_10 t273 x275001_1 = some (r1, r2, r3)) ∧ Aside0 (kq ≤ k1) ∧ Aside0 (Kd.R Kd.string 9 wc w.heap.size (fun _ => True) (.slice (some ad272) t269.length co7) t269) ∧ Aside0 (Kd.R k52 52 wc w.heap.size (fun _ => True) u275001 x275001_1) ∧ Aside0 (wc.heap[gb268]? = some (.cells #[.int .i64 x269000_1, (.slice none 0 0)] 26 (0, 0))) ∧ Aside0 (wc.heap[gb274]? = some (.cells #[.int .i64 t273, u275001] 26 (0, 0))) ∧ Aside0 (Below w.heap.size w wc))
   case first =>
    have H := HC11.out
    clear HC11
    by_cases c12 : x6_1 < (t269.length : Int)
    ·rw [if_pos c12] at H
     have c12b0 := decide_eq_true c12
     clear c12
     (first | rw [c12b0] | (simp only [i64_w, i32_w]; rw [c12b0]) | skip)
     have H' := Aside0.mk H
     clear H
     go_wp2
     go_meet
     case rel => exact ⟨_, (decide (x6_1 < 17)), rs_, H', ⟨by have := HK1.out; first | omega | exact Nat.le_refl _⟩, ⟨ra_ HO_4.out⟩, ⟨ra_ HO_275001.out⟩, ⟨bk_ BK268.out⟩, ⟨bk_ BK274.out⟩, ⟨bl2_ HB.out GE268.out GE274.out⟩⟩
    ·rw [if_neg c12] at H
     have c12b0 := decide_eq_false c12
     clear c12
     (first | rw [c12b0] | (simp only [i64_w, i32_w]; rw [c12b0]) | skip)
     have H' := Aside0.mk H
     clear H
     go_wp2
     go_meet
     case rel => exact ⟨_, (false), rs_, H', ⟨by have := HK1.out; first | omega | exact Nat.le_refl _⟩, ⟨ra_ HO_4.out⟩, ⟨ra_ HO_275001.out⟩, ⟨bk_ BK268.out⟩, ⟨bk_ BK274.out⟩, ⟨bl2_ HB.out GE268.out GE274.out⟩⟩
   case rest =>
    clear HC11
    try clear c1
    try clear p2
    try clear q2
    try clear hx2
    try clear qi2
    try clear c3
    try clear c3b0
    try clear c3b1
    try clear c9
    try clear c12
    try clear c12b0
    try clear hcz10_0
    try clear hcz10_1
    try clear hfz10_0
    try clear hfz10_1
    try clear hx272_0
    try clear p2
    try clear p272
    try clear q2
    try clear q272
    obtain ⟨kq, x23_10, rfl, HA, HJ10, HO_4, HO_275001, BK268, BK274, HB⟩ := hcut
    cases kq with
    | zero => exact absurd HA.out (by simp [spec_ReadTree.j1])
    | succ kj10 =>
     have H := HA.out
     clear HA
     simp only [spec_ReadTree.j1] at H
     by_cases c13 : x23_10 = true
     ·subst c13
      have H1 : (if 0 ≤ x6_1 then (if x6_1 < (t269.length : Int) then ((spec_l02Split.f kj10 (rdOf ByteArray.empty t269 x6_1) 58).bind fun t277 => (if 0 < (t277.length : Int) then ((spec_l02Split.f kj10 (rdOf ByteArray.empty t277 0) 45).bind fun t281 => (if (t277.length : Int) = 2 then (spec_ReadTree.j2 kj10 a0 t269 x6_1 t277 t281 ((t281.length : Int) != 2) t273 x275001_1) else (spec_ReadTree.j2 kj10 a0 t269 x6_1 t277 t281 true t273 x275001_1))) else (none))) else (none)) else (none)) = some (r1, r2, r3) := by rw [if_pos rfl] at H; exact H
      clear H
      have H := H1
      clear H1
      by_cases c14 : 0 ≤ x6_1
      rotate_left
      ·exact nope_ c14 H
      rw [if_pos c14] at H
      have c14b0 := decide_eq_true c14
      clear c14
      by_cases c15 : x6_1 < (t269.length : Int)
      rotate_left
      ·exact nope_ c15 H
      rw [if_pos c15] at H
      have c15b0 := decide_eq_true c15
      clear c15
      replace H := Option.bind_eq_some_iff.mp H
      obtain ⟨t277, A160, H⟩ := H
      replace H : (if 0 < (t277.length : Int) then ((spec_l02Split.f kj10 (rdOf ByteArray.empty t277 0) 45).bind fun t281 => (if (t277.length : Int) = 2 then (spec_ReadTree.j2 kj10 a0 t269 x6_1 t277 t281 ((t281.length : Int) != 2) t273 x275001_1) else (spec_ReadTree.j2 kj10 a0 t269 x6_1 t277 t281 true t273 x275001_1))) else (none)) = some (r1, r2, r3) := H
      have A16 := Aside0.mk A160
      clear A160
      by_cases c17 : 0 < (t277.length : Int)
      rotate_left
      ·exact nope_ c17 H
      rw [if_pos c17] at H
      have c17b0 := decide_eq_true c17
      have c17b1 : decide (0 < t277.length) = true := decide_eq_true (by omega)
      clear c17
      replace H := Option.bind_eq_some_iff.mp H
      obtain ⟨t281, A180, H⟩ := H
      replace H : (if (t277.length : Int) = 2 then (spec_ReadTree.j2 kj10 a0 t269 x6_1 t277 t281 ((t281.length : Int) != 2) t273 x275001_1) else (spec_ReadTree.j2 kj10 a0 t269 x6_1 t277 t281 true t273 x275001_1)) = some (r1, r2, r3) := H
      have A18 := Aside0.mk A180
      clear A180
      have HC19 := Aside0.mk H
      clear H
      have p276 : 0 ≤ (x6_1 : Int) := od_
      have q276 : x6_1 < (t269.length : Int) := od_
      obtain ⟨ad276, e276, hx276_0⟩ := Kd.at_string (Kd.R_reads' HO_4.out).2.2 x6_1 p276 q276
      obtain rfl : ad272 = ad276 := (by injection e276)
      replace p276 := eq_true p276
      replace q276 := eq_true q276
      go_upto_region 8 with (first | ((with_reducible refine gate_callee (f := 31) rfl ?_); refine goesL_ (some 30) rfl rfl Tryd.func31 (by kernel_rfl) rfl #[.string (rdOf ByteArray.empty t269 x6_1), .int .u8 58] rfl mp_ ?_; (with_reducible refine (spec_l02Split.calls kj10 (rdOf ByteArray.empty t269 x6_1) 58 t277 _ A16.out).mono ?_); rintro e w20 ⟨v278, rfl, ho0, hb⟩; refine ⟨_, rfl, ?_⟩; have n0_ := Aside0.mk (Kd.R_elder' (ra_ HO_4.out) (Kd.R_base ho0) hb); have n1_ := Aside0.mk (Kd.R_below (ra_ HO_275001.out) hb); have n2_ := Aside0.mk (Kd.R_lower (Kd.R_new' ho0 (Kd.R_lt (ra_ HO_4.out))) (below_size (bl2_ HB.out GE268.out GE274.out))); have n3_ := Aside0.mk (blk_below (g := gb268) (o := .cells #[.int .i64 x269000_1, .slice none 0 0] 26 (0, 0)) (bk_ BK268.out) hb); have n4_ := Aside0.mk (blk_below (g := gb274) (o := .cells #[.int .i64 t273, u275001] 26 (0, 0)) (bk_ BK274.out) hb); have n5_ := Aside0.mk (below_step (bl2_ HB.out GE268.out GE274.out) hb); clear HO_4; clear HO_275001; clear BK268; clear BK274; clear HB; have HO_4 := n0_; have HO_275001 := n1_; have HO279 := n2_; have BK268 := n3_; have BK274 := n4_; have HB := n5_; clear n0_ n1_ n2_ n3_ n4_ n5_; (try clear hb); (try clear hb2); (try clear hk); (try clear hi); (try clear ho0); obtain ⟨Ao21, co21, eo21⟩ := Kd.R_slice HO279.out; subst eo21; have p280 : 0 ≤ (0 : Int) := (by omega); have q280 : 0 < (t277.length : Int) := od_; obtain ⟨ad280, e280, hx280_0⟩ := Kd.at_string (Kd.R_reads' HO279.out).2.2 0 p280 q280; cases e280; have qi280 : (0 < t277.length) = True := eq_true (by omega); (try rw [show ((0 : Int)).toNat = 0 from rfl] at hx280_0); (try rw [Addr.add_zero'] at hx280_0); replace p280 := eq_true p280; replace q280 := eq_true q280) | ((with_reducible refine gate_callee (f := 31) rfl ?_); refine goesL_ (some 34) rfl rfl Tryd.func31 (by kernel_rfl) rfl #[.string (rdOf ByteArray.empty t277 0), .int .u8 45] rfl mp_ ?_; (with_reducible refine (spec_l02Split.calls kj10 (rdOf ByteArray.empty t277 0) 45 t281 _ A18.out).mono ?_); rintro e w22 ⟨v282, rfl, ho0, hb⟩; refine ⟨_, rfl, ?_⟩; have n0_ := Aside0.mk (Kd.R_elder' (ra_ HO_4.out) (Kd.R_base ho0) hb); have n1_ := Aside0.mk (Kd.R_below (ra_ HO_275001.out) hb); have n2_ := Aside0.mk (Kd.R_elder' (ra_ HO279.out) (Kd.R_base ho0) hb); have n3_ := Aside0.mk (Kd.R_lower (Kd.R_new' (Kd.R_new' ho0 (Kd.R_lt (ra_ HO_4.out))) (Kd.R_lt (ra_ HO279.out))) (below_size (bl2_ HB.out GE268.out GE274.out))); have n4_ := Aside0.mk (blk_below (g := gb268) (o := .cells #[.int .i64 x269000_1, .slice none 0 0] 26 (0, 0)) (bk_ BK268.out) hb); have n5_ := Aside0.mk (blk_below (g := gb274) (o := .cells #[.int .i64 t273, u275001] 26 (0, 0)) (bk_ BK274.out) hb); have n6_ := Aside0.mk (below_step (bl2_ HB.out GE268.out GE274.out) hb); clear HO_4; clear HO_275001; clear HO279; clear BK268; clear BK274; clear HB; have HO_4 := n0_; have HO_275001 := n1_; have HO279 := n2_; have HO283 := n3_; have BK268 := n4_; have BK274 := n5_; have HB := n6_; clear n0_ n1_ n2_ n3_ n4_ n5_ n6_; (try clear hb); (try clear hb2); (try clear hk); (try clear hi); (try clear ho0)))
      (try simp only [Act.put, List.setIfInBounds_toArray, List.set_cons_zero, List.set_cons_succ])
      go_cut [42] (fun v42 wc => ∃ (kq : Nat) (x42_18 : Bool), v42 = .bool x42_18 ∧ Aside0 (spec_ReadTree.j2 kq a0 t269 x6_1 t277 t281 x42_18 t273 x275001_1 = some (r1, r2, r3)) ∧ Aside0 (kq ≤ kj10) ∧ Aside0 (Kd.R Kd.string 9 wc w.heap.size (fun k_ => some k_ ≠ ((.slice (some ad280) t277.length co21) : Value).ownBlock ∧ some k_ ≠ (v282 : Value).ownBlock) (.slice (some ad272) t269.length co7) t269) ∧ Aside0 (Kd.R Kd.string 9 wc w.heap.size (fun k_ => some k_ ≠ ((.slice (some ad272) t269.length co7) : Value).ownBlock ∧ some k_ ≠ (v282 : Value).ownBlock) (.slice (some ad280) t277.length co21) t277) ∧ Aside0 (Kd.R Kd.string 9 wc w.heap.size (fun k_ => some k_ ≠ ((.slice (some ad272) t269.length co7) : Value).ownBlock ∧ some k_ ≠ ((.slice (some ad280) t277.length co21) : Value).ownBlock) v282 t281) ∧ Aside0 (Kd.R k52 52 wc w.heap.size (fun _ => True) u275001 x275001_1) ∧ Aside0 (wc.heap[gb268]? = some (.cells #[.int .i64 x269000_1, (.slice none 0 0)] 26 (0, 0))) ∧ Aside0 (wc.heap[gb274]? = some (.cells #[.int .i64 t273, u275001] 26 (0, 0))) ∧ Aside0 (Below w.heap.size w wc))
      case first =>
       have H := HC19.out
       clear HC19
       by_cases c23 : (t277.length : Int) = 2
       ·rw [if_pos c23] at H
        have c23b0 : ((t277.length : Int) == 2) = true := beq_iff_eq.mpr c23
        have c23b1 : ((t277.length : Int) != 2) = false := bne_eq_false_iff_eq.mpr c23
        clear c23
        (first | rw [c23b0] | (simp only [i64_w, i32_w]; rw [c23b0]) | skip)
        have H' := Aside0.mk H
        clear H
        obtain ⟨Ao24, co24, eo24⟩ := Kd.R_slice HO283.out
        subst eo24
        go_wp2
        go_meet
        case rel => exact ⟨_, (((t281.length : Int) != 2)), rs_, H', ⟨by have := HK1.out; have := HJ10.out; first | omega | exact Nat.le_refl _⟩, ⟨by (with_reducible repeat (first | apply Kd.R_alloc | apply Kd.R_drewN | apply Kd.R_drew)); exact Kd.R_mono HO_4.out (fun _ hk => ⟨hk.1.2, hk.2⟩)⟩, ⟨by (with_reducible repeat (first | apply Kd.R_alloc | apply Kd.R_drewN | apply Kd.R_drew)); exact Kd.R_mono HO279.out (fun _ hk => ⟨hk.1.2, hk.2⟩)⟩, ⟨by (with_reducible repeat (first | apply Kd.R_alloc | apply Kd.R_drewN | apply Kd.R_drew)); exact Kd.R_mono HO283.out (fun _ hk => ⟨hk.1.2, hk.2⟩)⟩, ⟨ra_ HO_275001.out⟩, ⟨bk_ BK268.out⟩, ⟨bk_ BK274.out⟩, ⟨bl2_ HB.out GE268.out GE274.out⟩⟩
       ·rw [if_neg c23] at H
        have c23b0 : ((t277.length : Int) == 2) = false := beq_eq_false_iff_ne.mpr c23
        have c23b1 : ((t277.length : Int) != 2) = true := bne_iff_ne.mpr c23
        (first | rw [c23b0] | (simp only [i64_w, i32_w]; rw [c23b0]) | skip)
        have H' := Aside0.mk H
        clear H
        go_wp2
        go_meet
        case rel => exact ⟨_, (true), rs_, H', ⟨by have := HK1.out; have := HJ10.out; first | omega | exact Nat.le_refl _⟩, ⟨by (with_reducible repeat (first | apply Kd.R_alloc | apply Kd.R_drewN | apply Kd.R_drew)); exact Kd.R_mono HO_4.out (fun _ hk => ⟨hk.1.2, hk.2⟩)⟩, ⟨by (with_reducible repeat (first | apply Kd.R_alloc | apply Kd.R_drewN | apply Kd.R_drew)); exact Kd.R_mono HO279.out (fun _ hk => ⟨hk.1.2, hk.2⟩)⟩, ⟨by (with_reducible repeat (first | apply Kd.R_alloc | apply Kd.R_drewN | apply Kd.R_drew)); exact Kd.R_mono HO283.out (fun _ hk => ⟨hk.1.2, hk.2⟩)⟩, ⟨ra_ HO_275001.out⟩, ⟨bk_ BK268.out⟩, ⟨bk_ BK274.out⟩, ⟨bl2_ HB.out GE268.out GE274.out⟩⟩
      case rest =>
       clear HC19
       try clear c1
       try clear c2
       try clear p2
       try clear q2
       try clear hx2
       try clear qi2
       try clear c3
       try clear c3b0
       try clear c3b1
       try clear c9
       try clear c12
       try clear c12b0
       try clear c13
       try clear c14
       try clear c14b0
       try clear c15
       try clear c15b0
       try clear c17
       try clear c17b0
       try clear c17b1
       try clear c23
       try clear c23b0
       try clear c23b1
       try clear hcz10_0
       try clear hcz10_1
       try clear hfz10_0
       try clear hfz10_1
       try clear hx272_0
       try clear hx276_0
       try clear hx280_0
       try clear p2
       try clear p272
       try clear p276
       try clear p280
       try clear q2
       try clear q272
       try clear q276
       try clear q280
       obtain ⟨kq, x42_18, rfl, HA, HJ18, HO_4, HO_7, HO_8, HO_275001, BK268, BK274, HB⟩ := hcut
       cases kq with
       | zero => exact absurd HA.out (by simp [spec_ReadTree.j2])
       | succ kj18 =>
        have H := HA.out
        clear HA
        simp only [spec_ReadTree.j2] at H
        by_cases c25 : x42_18 = true
        ·subst c25
         have H1 : (some (0, ([] : List (S52)), false)) = some (r1, r2, r3) := by rw [if_pos rfl] at H; exact H
         clear H
         have H := H1
         clear H1
         simp only [Option.some.injEq, Prod.mk.injEq] at H
         obtain ⟨rfl, rfl, rfl⟩ := H
         have hnb26 := NB268_274.out
         have hnc26 := NB274_268.out
         obtain ⟨hcz27_0, hcz27_1, hfz27_0, hfz27_1⟩ := cz2_ BK268.out
         go_wp2
         refine bodyPost_ret (results_ct rfl _ _ gb268 26 #[.int .i64 0, .slice none 0 0] (0, 0) _ rfl (by (with_reducible repeat (first | refine blk_drewN ?_ _ | refine blk_drew ?_ | refine blk_alloc ?_ _)); refine blk_put (cs := #[.int .i64 0, .slice none 0 0]) ?_ 1 _ rfl; (with_reducible repeat (first | refine blk_drewN ?_ _ | refine blk_drew ?_ | refine blk_alloc ?_ _)); refine blk_put (cs := #[.int .i64 x269000_1, .slice none 0 0]) ?_ 0 _ rfl; (with_reducible repeat (first | refine blk_drewN ?_ _ | refine blk_drew ?_ | refine blk_alloc ?_ _)); exact BK268.out) Tryd.underlying26 rfl (by kernel_rfl)) rfl ?_
         exact ⟨_, re_, by first | exact Kd.R_nil _ _ _ _ _ | exact Kd.N_nil _ _ _ _ _ | exact Kd.V_nil _ _ _ _ _ | exact Kd.Q_nil _ _ _ _ _ | exact Kd.S_nil _ _ _ _ _, bl2_ HB.out GE268.out GE274.out⟩
        ·replace c25 := Bool.eq_false_iff.mpr c25
         subst c25
         have H1 : (if 0 < (t281.length : Int) then ((spec_l27Number.f kj18 (rdOf ByteArray.empty t281 0)).bind fun t285 => (if 1 < (t281.length : Int) then ((spec_l27Number.f kj18 (rdOf ByteArray.empty t281 1)).bind fun t287 => (if 1 < (t277.length : Int) then ((spec_l27Number.f kj18 (rdOf ByteArray.empty t277 1)).bind fun t289 => (if x275001_1.length < 5864062014805 then (spec_ReadTree.l0 kj18 a0 t269 (wrap64 (x6_1 + 1)) t273 (x275001_1 ++ [(⟨t285, t287, t289⟩ : S52)])) else (none))) else (none))) else (none))) else (none)) = some (r1, r2, r3) := by rw [if_neg (show ¬ (false = true) by decide)] at H; exact H
         clear H
         have H := H1
         clear H1
         by_cases c28 : 0 < (t281.length : Int)
         rotate_left
         ·exact nope_ c28 H
         rw [if_pos c28] at H
         have c28b0 := decide_eq_true c28
         have c28b1 : decide (0 < t281.length) = true := decide_eq_true (by omega)
         clear c28
         replace H := Option.bind_eq_some_iff.mp H
         obtain ⟨t285, A290, H⟩ := H
         replace H : (if 1 < (t281.length : Int) then ((spec_l27Number.f kj18 (rdOf ByteArray.empty t281 1)).bind fun t287 => (if 1 < (t277.length : Int) then ((spec_l27Number.f kj18 (rdOf ByteArray.empty t277 1)).bind fun t289 => (if x275001_1.length < 5864062014805 then (spec_ReadTree.l0 kj18 a0 t269 (wrap64 (x6_1 + 1)) t273 (x275001_1 ++ [(⟨t285, t287, t289⟩ : S52)])) else (none))) else (none))) else (none)) = some (r1, r2, r3) := H
         have A29 := Aside0.mk A290
         clear A290
         by_cases c30 : 1 < (t281.length : Int)
         rotate_left
         ·exact nope_ c30 H
         rw [if_pos c30] at H
         have c30b0 := decide_eq_true c30
         have c30b1 : decide (1 < t281.length) = true := decide_eq_true (by omega)
         clear c30
         replace H := Option.bind_eq_some_iff.mp H
         obtain ⟨t287, A310, H⟩ := H
         replace H : (if 1 < (t277.length : Int) then ((spec_l27Number.f kj18 (rdOf ByteArray.empty t277 1)).bind fun t289 => (if x275001_1.length < 5864062014805 then (spec_ReadTree.l0 kj18 a0 t269 (wrap64 (x6_1 + 1)) t273 (x275001_1 ++ [(⟨t285, t287, t289⟩ : S52)])) else (none))) else (none)) = some (r1, r2, r3) := H
         have A31 := Aside0.mk A310
         clear A310
         by_cases c32 : 1 < (t277.length : Int)
         rotate_left
         ·exact nope_ c32 H
         rw [if_pos c32] at H
         have c32b0 := decide_eq_true c32
         have c32b1 : decide (1 < t277.length) = true := decide_eq_true (by omega)
         clear c32
         replace H := Option.bind_eq_some_iff.mp H
         obtain ⟨t289, A330, H⟩ := H
         replace H : (if x275001_1.length < 5864062014805 then (spec_ReadTree.l0 kj18 a0 t269 (wrap64 (x6_1 + 1)) t273 (x275001_1 ++ [(⟨t285, t287, t289⟩ : S52)])) else (none)) = some (r1, r2, r3) := H
         have A33 := Aside0.mk A330
         clear A330
         by_cases c34 : x275001_1.length < 5864062014805
         rotate_left
         ·exact nope_ c34 H
         rw [if_pos c34] at H
         have LMc34 := Aside0.mk c34
         clear c34
         obtain ⟨y290, hy290⟩ : ∃ y_ : List (S52), y_ = (x275001_1 ++ [(⟨t285, t287, t289⟩ : S52)]) := ⟨_, rfl⟩
         replace H : (spec_ReadTree.l0 kj18 a0 t269 (wrap64 (x6_1 + 1)) t273 y290) = some (r1, r2, r3) := yh_ H hy290
         have Ny290 := Aside0.mk hy290
         clear hy290
         have H' := Aside0.mk H
         clear H
         try go_wp2
         have n0_ := Aside0.mk (Kd.R_drew HO_4.out)
         have n1_ := Aside0.mk (Kd.R_drew HO_7.out)
         have n2_ := Aside0.mk (Kd.R_drew HO_8.out)
         have n3_ := Aside0.mk (Kd.R_drew HO_275001.out)
         have n4_ := Aside0.mk (blk_drew BK268.out)
         have n5_ := Aside0.mk (blk_drew BK274.out)
         have n6_ := Aside0.mk (below_drew1 HB.out)
         clear HO_4
         clear HO_7
         clear HO_8
         clear HO_275001
         clear BK268
         clear BK274
         clear HB
         have HO_4 := n0_
         have HO_7 := n1_
         have HO_8 := n2_
         have HO_275001 := n3_
         have BK268 := n4_
         have BK274 := n5_
         have HB := n6_
         clear n0_ n1_ n2_ n3_ n4_ n5_ n6_
         obtain ⟨Ao36, co36, eo36⟩ := Kd.R_slice HO_8.out
         (first | subst eo36 | (injection eo36 with f1_ f2_ f3_; have f4_ := f1_.symm; have f5_ := f3_.symm; clear f1_ f2_ f3_; subst f4_; subst f5_))
         have p284 : 0 ≤ (0 : Int) := (by omega)
         have q284 : 0 < (t281.length : Int) := od_
         obtain ⟨ad284, e284, hx284_0⟩ := Kd.at_string (Kd.R_reads' HO_8.out).2.2 0 p284 q284
         cases e284
         have qi284 : (0 < t281.length) = True := eq_true (by omega)
         (try rw [show ((0 : Int)).toNat = 0 from rfl] at hx284_0)
         (try rw [Addr.add_zero'] at hx284_0)
         replace p284 := eq_true p284
         replace q284 := eq_true q284
         have p286 : 0 ≤ (1 : Int) := (by omega)
         have q286 : 1 < (t281.length : Int) := od_
         obtain ⟨ad286, e286, hx286_0⟩ := Kd.at_string (Kd.R_reads' HO_8.out).2.2 1 p286 q286
         obtain rfl : ad284 = ad286 := (by injection e286)
         (try simp only [show (1 : Int).toNat = 1 from rfl, Nat.reduceMul, Nat.reduceEqDiff, Go.Addr.add, ↓reduceIte] at hx286_0)
         have qi286 : (1 < t281.length) = True := eq_true (by omega)
         (try rw [show ((1 : Int)).toNat = 1 from rfl] at hx286_0)
         replace p286 := eq_true p286
         replace q286 := eq_true q286
         have p288 : 0 ≤ (1 : Int) := (by omega)
         have q288 : 1 < (t277.length : Int) := od_
         obtain ⟨ad288, e288, hx288_0⟩ := Kd.at_string (Kd.R_reads' HO_7.out).2.2 1 p288 q288
         obtain rfl : ad280 = ad288 := (by injection e288)
         (try simp only [show (1 : Int).toNat = 1 from rfl, Nat.reduceMul, Nat.reduceEqDiff, Go.Addr.add, ↓reduceIte] at hx288_0)
         have qi288 : (1 < t277.length) = True := eq_true (by omega)
         (try rw [show ((1 : Int)).toNat = 1 from rfl] at hx288_0)
         replace p288 := eq_true p288
         replace q288 := eq_true q288
         refine start_ (n := 19) (S := fun w' => w'.cell? ⟨gb274, 0, none⟩ = some (.int .i64 t273) ∧ w'.cell? ⟨gb274, 1, none⟩ = some (u275001) ∧ w'.cell? ad284 = some (.string (rdOf ByteArray.empty t281 0)) ∧ w'.cell? ⟨ad284.block, ad284.off + 1, none⟩ = some (.string (rdOf ByteArray.empty t281 1)) ∧ w'.cell? ⟨ad280.block, ad280.off + 1, none⟩ = some (.string (rdOf ByteArray.empty t277 1))) (ds := [16, 18]) (nb_ 19 0) (by kernel_rfl) rfl rfl ⟨(blk_cell BK274.out 0).trans rfl, (blk_cell BK274.out 1).trans rfl, hx284_0, hx286_0, hx288_0⟩ (fun hHeld => ?_); refine with_tabW spec_ReadTree.tab10 spec_ReadTree.bits10 (fun HT_ HW_ => ?_)
         generalize wc.drew = w35 at HO_4 HO_7 HO_8 HO_275001 BK268 BK274 HB hx284_0 hx286_0 hx288_0 hHeld ⊢
         refine puz_ 0 (some 44) (nb_ 19 1) rfl rfl (any_of HT_.out (by kernel_rfl)) ?_
         refine puz_ 2 (some 46) (nb_ 19 5) rfl rfl (any_of HT_.out (by kernel_rfl)) ?_
         refine puz_ 3 (some 47) (nb_ 19 13) rfl rfl (any_of HT_.out (by kernel_rfl)) ?_
         refine puz_ 6 (some 50) (nb_ 19 77) rfl rfl (any_of HT_.out (by kernel_rfl)) ?_
         refine puz_ 7 (some 51) (nb_ 19 205) rfl rfl (any_of HT_.out (by kernel_rfl)) ?_
         refine puz_ 10 (some 54) (nb_ 19 1229) rfl rfl (any_of HT_.out (by kernel_rfl)) ?_
         refine puz_ 11 (some 55) (nb_ 19 3277) rfl rfl (any_of HT_.out (by kernel_rfl)) ?_
         refine tkz_ 1 (some 45) (nb_ 19 3279) rfl rfl (take_ofW HT_.out HW_.out (by kernel_rfl)) hHeld ?_
         refine tkz_ 4 (some 48) (nb_ 19 3295) rfl rfl (take_ofW HT_.out HW_.out (by kernel_rfl)) hHeld ?_
         refine tkz_ 8 (some 52) (nb_ 19 3551) rfl rfl (take_ofW HT_.out HW_.out (by kernel_rfl)) hHeld ?_
         refine tkz_ 12 (some 56) (nb_ 19 7647) rfl rfl (take_ofW HT_.out HW_.out (by kernel_rfl)) hHeld ?_
         refine one_ (i := 5) (N := some 49) (nb_ 19 7679) rfl rfl (one_of HT_.out (by kernel_rfl)) (by decide) (fun K hK => ?_)
         refine goes_ Tryd.func32 (by kernel_rfl) rfl #[.string (rdOf ByteArray.empty t281 0)] (by rfl) rfl rfl mp_ ?_
         with_reducible refine (spec_l27Number.calls kj18 (rdOf ByteArray.empty t281 0) t285 _ A29.out).mono ?_
         rintro e w' ⟨rfl, ⟨nd, rfl⟩⟩
         refine ⟨_, rfl, ?_⟩
         refine hK.out _ _ ⟨(blk_cell BK274.out 0).trans rfl, (blk_cell BK274.out 1).trans rfl, hHeld.2.2.1, hHeld.2.2.2.1, hHeld.2.2.2.2⟩ (fun hHeld => ?_)
         clear hK K
         refine norm_ (a' := ?_) ?_ ?_
         rotate_left
         ·show Act.put _ (some 49) _ = _
          simp only [Act.put, List.setIfInBounds_toArray, List.set_cons_zero, List.set_cons_succ, i64_w, i32_w]
          rfl
         refine one_ (i := 9) (N := some 53) (nb_ 19 8191) rfl rfl (one_of HT_.out (by kernel_rfl)) (by decide) (fun K hK => ?_)
         refine goes_ Tryd.func32 (by kernel_rfl) rfl #[.string (rdOf ByteArray.empty t281 1)] (by rfl) rfl rfl mp_ ?_
         with_reducible refine (spec_l27Number.calls kj18 (rdOf ByteArray.empty t281 1) t287 _ A31.out).mono ?_
         rintro e w' ⟨rfl, ⟨nd, rfl⟩⟩
         refine ⟨_, rfl, ?_⟩
         refine hK.out _ _ ⟨(blk_cell BK274.out 0).trans rfl, (blk_cell BK274.out 1).trans rfl, hHeld.2.2.1, hHeld.2.2.2.1, hHeld.2.2.2.2⟩ (fun hHeld => ?_)
         clear hK K
         refine norm_ (a' := ?_) ?_ ?_
         rotate_left
         ·show Act.put _ (some 53) _ = _
          simp only [Act.put, List.setIfInBounds_toArray, List.set_cons_zero, List.set_cons_succ, i64_w, i32_w]
          rfl
         refine one_ (i := 13) (N := some 57) (nb_ 19 16383) rfl rfl (one_of HT_.out (by kernel_rfl)) (by decide) (fun K hK => ?_)
         refine goes_ Tryd.func32 (by kernel_rfl) rfl #[.string (rdOf ByteArray.empty t277 1)] (by rfl) rfl rfl mp_ ?_
         with_reducible refine (spec_l27Number.calls kj18 (rdOf ByteArray.empty t277 1) t289 _ A33.out).mono ?_
         rintro e w' ⟨rfl, ⟨nd, rfl⟩⟩
         refine ⟨_, rfl, ?_⟩
         refine hK.out _ _ ⟨(blk_cell BK274.out 0).trans rfl, (blk_cell BK274.out 1).trans rfl, hHeld.2.2.1, hHeld.2.2.2.1, hHeld.2.2.2.2⟩ (fun hHeld => ?_)
         clear hK K
         refine norm_ (a' := ?_) ?_ ?_
         rotate_left
         ·show Act.put _ (some 57) _ = _
          simp only [Act.put, List.setIfInBounds_toArray, List.set_cons_zero, List.set_cons_succ, i64_w, i32_w]
          rfl
         refine puz_ 14 (some 58) (nb_ 19 32767) rfl rfl (any_of HT_.out (by kernel_rfl)) ?_
         refine one_ (i := 15) (N := some 59) (nb_ 19 65535) rfl rfl (one_of HT_.out (by kernel_rfl)) (by decide) (fun K hK => ?_)
         refine value_ (w1 := ?_) (v := ?_) (by rfl) rfl ?_ ?_
         rotate_left 2
         ·go_simp
          constructor
          ·rfl
          ·rfl
         refine hK.out _ _ ⟨(blk_cell (blk_alloc BK274.out _) 0).trans rfl, (blk_cell (blk_alloc BK274.out _) 1).trans rfl, (World.cell?_alloc_lt _ _ _ (World.block_lt_of_cell? _ _ (hHeld.2.2.1))).trans (hHeld.2.2.1), (World.cell?_alloc_lt _ _ _ (World.block_lt_of_cell? _ _ (hHeld.2.2.2.1))).trans (hHeld.2.2.2.1), (World.cell?_alloc_lt _ _ _ (World.block_lt_of_cell? _ _ (hHeld.2.2.2.2))).trans (hHeld.2.2.2.2)⟩ (fun hHeld => ?_)
         clear hK K
         refine norm_ (a' := ?_) ?_ ?_
         rotate_left
         ·show Act.put _ (some 59) _ = _
          simp only [Act.put, List.setIfInBounds_toArray, List.set_cons_zero, List.set_cons_succ, i64_w, i32_w]
          rfl
         refine last_ (i := 16) (N := some 60) (nb_ 19 131071) rfl rfl (one_of HT_.out (by kernel_rfl)) (by decide) (fun K hK => ?_)
         refine Kd.R_append_step k52 (w0 := w) w.heap.size (by rfl) (.tmp 45) (.tmp 59) 24 52 (.agg #[(.int .i64 0), (.int .i64 0), (.int .i64 0)]) 24 rfl Tryd.underlying24 info52 rfl (by decide) (by omega) u275001 x275001_1 (⟨t285, t287, t289⟩ : S52) [.int .i64 t285, .int .i64 t287, .int .i64 t289] (fun _ => True) (fun _ => False) rfl rfl ?aP (fun _ hk => hk.elim) ?aF ?aO ?aB ?aS ?aL ?_
         (case aP => exact k52_mkM _ _ _ (⟨t285, t287, t289⟩ : S52))
         (case aB => exact (bl2_ HB.out GE268.out GE274.out))
         (case aF => exact (fun _ _ => trivial))
         (case aO => exact (ra_ HO_275001.out))
         (case aS => exact (below_size (bl2_ HB.out GE268.out GE274.out)))
         (case aL => have := LMc34.out; omega)
         intro v291 w37 ho hb hg hat
         rw [← Ny290.out] at ho
         have n0_ := Aside0.mk (Kd.R_over' (ra_ HO_4.out) (Kd.R_typed (ra_ HO_275001.out)) (by decide) hg)
         have n1_ := Aside0.mk (Kd.R_over' (ra_ HO_7.out) (Kd.R_typed (ra_ HO_275001.out)) (by decide) hg)
         have n2_ := Aside0.mk (Kd.R_over' (ra_ HO_8.out) (Kd.R_typed (ra_ HO_275001.out)) (by decide) hg)
         have n3_ := Aside0.mk (blk_grown (g := gb268) (o := .cells #[.int .i64 x269000_1, .slice none 0 0] 26 (0, 0)) (bk_ BK268.out) hg (Kd.R_ne HO_275001.out BK268.out (by decide)))
         have n4_ := Aside0.mk (blk_grown (g := gb274) (o := .cells #[.int .i64 t273, u275001] 26 (0, 0)) (bk_ BK274.out) hg (Kd.R_ne HO_275001.out BK274.out (by decide)))
         have n5_ := Aside0.mk (hb)
         have n6_ := Aside0.mk (ho)
         clear HO_4
         clear HO_7
         clear HO_8
         clear BK268
         clear BK274
         clear HB
         clear HO_275001
         have HO_4 := n0_
         have HO_7 := n1_
         have HO_8 := n2_
         have BK268 := n3_
         have BK274 := n4_
         have HB := n5_
         have HO292 := n6_
         clear n0_ n1_ n2_ n3_ n4_ n5_ n6_
         clear ho hb hg hat
         obtain ⟨Ao38, co38, eo38⟩ := Kd.R_slice HO292.out
         (first | subst eo38 | (injection eo38 with f1_ f2_ f3_; have f4_ := f1_.symm; have f5_ := f3_.symm; clear f1_ f2_ f3_; subst f4_; subst f5_))
         refine hK.out _ _ ?_
         clear hK K
         refine norm_ (a' := ?_) ?_ ?_
         rotate_left
         ·show Act.put _ (some 60) _ = _
          simp only [Act.put, List.setIfInBounds_toArray, List.set_cons_zero, List.set_cons_succ, i64_w, i32_w]
          rfl
         refine puz_ 17 (some 61) (nb_ 19 262143) rfl rfl (any_of HT_.out (by kernel_rfl)) ?_
         refine last_ (i := 18) (N := none) (nb_ 19 524287) rfl rfl (one_of HT_.out (by kernel_rfl)) (by decide) (fun K hK => ?_)
         have hs39 : w37.cell? ⟨gb274, 1, none⟩ = some (u275001) := (blk_cell BK274.out 1).trans rfl
         have hfs39 := blk_frozen BK274.out 1
         have hns39_0 := NB268_274.out
         have hms39_0 := NB274_268.out
         refine skip_ (w1 := ?_) (by rfl) rfl ?_ ?_
         rotate_left
         ·go_simp
          rfl
         refine hK.out _ _ ?_
         clear hK K
         refine done_ (done_of HT_.out (by kernel_rfl)) ?_
         try go_wp2
         go_roundg kj18
         case measure => have := HK1.out; have := HJ10.out; have := HJ18.out; omega
         case rel => exact ⟨(wrap64 (x6_1 + 1)), (x269000_1), (y290), (.slice Ao38 y290.length co38), rs_, H', ⟨by have := HK1.out; have := HJ10.out; have := HJ18.out; omega⟩, ⟨by (with_reducible repeat (first | apply Kd.R_alloc | apply Kd.R_drewN | apply Kd.R_drew)); exact Kd.R_mono (Kd.R_far (p := ⟨gb274, 1, none⟩) (Kd.R_types HO_4.out BK274.out (by decide)) (fun _ hk => hk.2) (.slice Ao38 y290.length co38)) (fun _ hk => trivial)⟩, ⟨by (with_reducible repeat (first | apply Kd.R_alloc | apply Kd.R_drewN | apply Kd.R_drew)); exact Kd.R_mono (Kd.R_far (p := ⟨gb274, 1, none⟩) (Kd.R_types HO292.out BK274.out (by decide)) (fun _ hk => hk.2) (.slice Ao38 y290.length co38)) (fun _ hk => trivial)⟩, ⟨by (with_reducible repeat (first | refine blk_drewN ?_ _ | refine blk_drew ?_ | refine blk_alloc ?_ _)); refine blk_far ?_ NB268_274.out _; (with_reducible repeat (first | refine blk_drewN ?_ _ | refine blk_drew ?_ | refine blk_alloc ?_ _)); exact BK268.out⟩, ⟨by (with_reducible repeat (first | refine blk_drewN ?_ _ | refine blk_drew ?_ | refine blk_alloc ?_ _)); refine blk_put (cs := #[.int .i64 t273, u275001]) ?_ 1 _ rfl; (with_reducible repeat (first | refine blk_drewN ?_ _ | refine blk_drew ?_ | refine blk_alloc ?_ _)); exact BK274.out⟩, ⟨bl2_ HB.out GE268.out GE274.out⟩⟩
     ·replace c13 := Bool.eq_false_iff.mpr c13
      subst c13
      have H1 : (if a0.toList = ([] : List UInt8) then (some (0, ([] : List (S52)), false)) else ((spec_TreeText.f kj10 t273 x275001_1).bind fun t275 => (if t275.toList = a0.toList then (some (t273, x275001_1, true)) else (some (0, ([] : List (S52)), false))))) = some (r1, r2, r3) := by rw [if_neg (show ¬ (false = true) by decide)] at H; exact H
      clear H
      have H := H1
      clear H1
      by_cases c40 : a0.toList = ([] : List UInt8)
      ·rw [if_pos c40] at H
       have c40b0 : (a0.toList == ([] : List UInt8)) = true := beq_iff_eq.mpr c40
       have c40b1 : (a0.toList != ([] : List UInt8)) = false := bne_eq_false_iff_eq.mpr c40
       clear c40
       simp only [Option.some.injEq, Prod.mk.injEq] at H
       obtain ⟨rfl, rfl, rfl⟩ := H
       have hnb41 := NB268_274.out
       have hnc41 := NB274_268.out
       obtain ⟨hcz42_0, hcz42_1, hfz42_0, hfz42_1⟩ := cz2_ BK268.out
       go_wp2
       refine bodyPost_ret (results_ct rfl _ _ gb268 26 #[.int .i64 0, .slice none 0 0] (0, 0) _ rfl (by (with_reducible repeat (first | refine blk_drewN ?_ _ | refine blk_drew ?_ | refine blk_alloc ?_ _)); refine blk_put (cs := #[.int .i64 0, .slice none 0 0]) ?_ 1 _ rfl; (with_reducible repeat (first | refine blk_drewN ?_ _ | refine blk_drew ?_ | refine blk_alloc ?_ _)); refine blk_put (cs := #[.int .i64 x269000_1, .slice none 0 0]) ?_ 0 _ rfl; (with_reducible repeat (first | refine blk_drewN ?_ _ | refine blk_drew ?_ | refine blk_alloc ?_ _)); exact BK268.out) Tryd.underlying26 rfl (by kernel_rfl)) rfl ?_
       exact ⟨_, re_, by first | exact Kd.R_nil _ _ _ _ _ | exact Kd.N_nil _ _ _ _ _ | exact Kd.V_nil _ _ _ _ _ | exact Kd.Q_nil _ _ _ _ _ | exact Kd.S_nil _ _ _ _ _, bl2_ HB.out GE268.out GE274.out⟩
      ·rw [if_neg c40] at H
       have c40b0 : (a0.toList == ([] : List UInt8)) = false := beq_eq_false_iff_ne.mpr c40
       have c40b1 : (a0.toList != ([] : List UInt8)) = true := bne_iff_ne.mpr c40
       replace H := Option.bind_eq_some_iff.mp H
       obtain ⟨t275, A430, H⟩ := H
       replace H : (if t275.toList = a0.toList then (some (t273, x275001_1, true)) else (some (0, ([] : List (S52)), false))) = some (r1, r2, r3) := H
       have A43 := Aside0.mk A430
       clear A430
       by_cases c44 : t275.toList = a0.toList
       ·rw [if_pos c44] at H
        have c44b0 : (t275.toList == a0.toList) = true := beq_iff_eq.mpr c44
        have c44b1 : (t275.toList != a0.toList) = false := bne_eq_false_iff_eq.mpr c44
        clear c44
        simp only [Option.some.injEq, Prod.mk.injEq] at H
        obtain ⟨rfl, rfl, rfl⟩ := H
        have hnb45 := NB274_268.out
        have hnc45 := NB268_274.out
        obtain ⟨hcz46_0, hcz46_1, hfz46_0, hfz46_1⟩ := cz2_ BK274.out
        obtain ⟨Ao47, co47, eo47⟩ := Kd.R_slice HO_275001.out
        subst eo47
        go_wp2_with (first | (go_at_call 33; (with_reducible refine (spec_TreeText.calls kj10 t273 _ _ x275001_1 t275 _ ?side1 ?side2 A43.out).mono ?_); (case side1 => exact ca_ (Kd.R_reads' HO_275001.out).2.2); (case side2 => exact (Kd.R_reads' HO_275001.out).2.1); rintro e w48 ⟨rfl, hb⟩; have n0_ := Aside0.mk (Kd.R_below (ra_ HO_4.out) hb); have n1_ := Aside0.mk (Kd.R_below (ra_ HO_275001.out) hb); have n2_ := Aside0.mk (blk_below (g := gb268) (o := .cells #[.int .i64 x269000_1, .slice none 0 0] 26 (0, 0)) (bk_ BK268.out) hb); have n3_ := Aside0.mk (blk_below (g := gb274) (o := .cells #[.int .i64 t273, .slice Ao47 x275001_1.length co47] 26 (0, 0)) (bk_ BK274.out) hb); have n4_ := Aside0.mk (below_step (bl2_ HB.out GE268.out GE274.out) hb); clear HO_4; clear HO_275001; clear BK268; clear BK274; clear HB; have HO_4 := n0_; have HO_275001 := n1_; have BK268 := n2_; have BK274 := n3_; have HB := n4_; clear n0_ n1_ n2_ n3_ n4_; (try clear hb); (try clear hb2); (try clear hk); (try clear hi); obtain ⟨hcz49_0, hcz49_1, hfz49_0, hfz49_1⟩ := cz2_ BK274.out; obtain ⟨hcz50_0, hcz50_1, hfz50_0, hfz50_1⟩ := cz2_ BK268.out))
        refine bodyPost_ret (results_ct rfl _ _ gb268 26 #[.int .i64 t273, .slice Ao47 x275001_1.length co47] (0, 0) _ rfl (by (with_reducible repeat (first | refine blk_drewN ?_ _ | refine blk_drew ?_ | refine blk_alloc ?_ _)); refine blk_put (cs := #[.int .i64 t273, .slice none 0 0]) ?_ 1 _ rfl; (with_reducible repeat (first | refine blk_drewN ?_ _ | refine blk_drew ?_ | refine blk_alloc ?_ _)); refine blk_put (cs := #[.int .i64 x269000_1, .slice none 0 0]) ?_ 0 _ rfl; (with_reducible repeat (first | refine blk_drewN ?_ _ | refine blk_drew ?_ | refine blk_alloc ?_ _)); exact BK268.out) Tryd.underlying26 rfl (by kernel_rfl)) rfl ?_
        exact ⟨_, re_, by (with_reducible repeat (first | apply Kd.R_alloc | apply Kd.R_drewN | apply Kd.R_drew)); exact Kd.R_mono (Kd.R_far (p := ⟨gb268, 1, none⟩) (Kd.R_far (p := ⟨gb268, 0, none⟩) (Kd.R_types HO_275001.out BK268.out (by decide)) (fun _ hk => hk.2) (.int .i64 t273)) (fun _ hk => hk.2) (.slice Ao47 x275001_1.length co47)) (fun _ hk => trivial), bl2_ HB.out GE268.out GE274.out⟩
       ·rw [if_neg c44] at H
        have c44b0 : (t275.toList == a0.toList) = false := beq_eq_false_iff_ne.mpr c44
        have c44b1 : (t275.toList != a0.toList) = true := bne_iff_ne.mpr c44
        simp only [Option.some.injEq, Prod.mk.injEq] at H
        obtain ⟨rfl, rfl, rfl⟩ := H
        have hnb51 := NB274_268.out
        have hnc51 := NB268_274.out
        obtain ⟨hcz52_0, hcz52_1, hfz52_0, hfz52_1⟩ := cz2_ BK274.out
        obtain ⟨Ao53, co53, eo53⟩ := Kd.R_slice HO_275001.out
        subst eo53
        go_wp2_with (first | (go_at_call 33; (with_reducible refine (spec_TreeText.calls kj10 t273 _ _ x275001_1 t275 _ ?side1 ?side2 A43.out).mono ?_); (case side1 => exact ca_ (Kd.R_reads' HO_275001.out).2.2); (case side2 => exact (Kd.R_reads' HO_275001.out).2.1); rintro e w54 ⟨rfl, hb⟩; have n0_ := Aside0.mk (Kd.R_below (ra_ HO_4.out) hb); have n1_ := Aside0.mk (Kd.R_below (ra_ HO_275001.out) hb); have n2_ := Aside0.mk (blk_below (g := gb268) (o := .cells #[.int .i64 x269000_1, .slice none 0 0] 26 (0, 0)) (bk_ BK268.out) hb); have n3_ := Aside0.mk (blk_below (g := gb274) (o := .cells #[.int .i64 t273, .slice Ao53 x275001_1.length co53] 26 (0, 0)) (bk_ BK274.out) hb); have n4_ := Aside0.mk (below_step (bl2_ HB.out GE268.out GE274.out) hb); clear HO_4; clear HO_275001; clear BK268; clear BK274; clear HB; have HO_4 := n0_; have HO_275001 := n1_; have BK268 := n2_; have BK274 := n3_; have HB := n4_; clear n0_ n1_ n2_ n3_ n4_; (try clear hb); (try clear hb2); (try clear hk); (try clear hi); obtain ⟨hcz55_0, hcz55_1, hfz55_0, hfz55_1⟩ := cz2_ BK268.out))
        refine bodyPost_ret (results_ct rfl _ _ gb268 26 #[.int .i64 0, .slice none 0 0] (0, 0) _ rfl (by (with_reducible repeat (first | refine blk_drewN ?_ _ | refine blk_drew ?_ | refine blk_alloc ?_ _)); refine blk_put (cs := #[.int .i64 0, .slice none 0 0]) ?_ 1 _ rfl; (with_reducible repeat (first | refine blk_drewN ?_ _ | refine blk_drew ?_ | refine blk_alloc ?_ _)); refine blk_put (cs := #[.int .i64 x269000_1, .slice none 0 0]) ?_ 0 _ rfl; (with_reducible repeat (first | refine blk_drewN ?_ _ | refine blk_drew ?_ | refine blk_alloc ?_ _)); exact BK268.out) Tryd.underlying26 rfl (by kernel_rfl)) rfl ?_
        exact ⟨_, re_, by first | exact Kd.R_nil _ _ _ _ _ | exact Kd.N_nil _ _ _ _ _ | exact Kd.V_nil _ _ _ _ _ | exact Kd.Q_nil _ _ _ _ _ | exact Kd.S_nil _ _ _ _ _, bl2_ HB.out GE268.out GE274.out⟩

/-! ### laws_eqTreeEdge: function 49 -/
def laws_eqTreeEdge.f (a0_0 : Int) (a0_1 : Int) (a0_2 : Int) (a1_0 : Int) (a1_1 : Int) (a1_2 : Int) : Option (Bool) := if a0_0 = a1_0 then (if a0_1 = a1_1 then (if a0_2 = a1_2 then (some true) else (some false)) else (some false)) else (some false)
set_option maxHeartbeats 8000000 in
set_option maxRecDepth 100000 in
theorem laws_eqTreeEdge.calls (a0_0 : Int) (a0_1 : Int) (a0_2 : Int) (a1_0 : Int) (a1_1 : Int) (a1_2 : Int) (r : Bool) (w : World) (h : laws_eqTreeEdge.f a0_0 a0_1 a0_2 a1_0 a1_1 a1_2 = some r) :
  Calls Tryd.prog 49 #[.agg #[.int .i64 a0_0, .int .i64 a0_1, .int .i64 a0_2], .agg #[.int .i64 a1_0, .int .i64 a1_1, .int .i64 a1_2]] w fun e w' => e = .returned (.bool r) ∧ Below w.heap.size w w' := by
 have hu52 := Tryd.underlying52
 have HB := Aside0.mk (Below.refl w.heap.size w)
 have H : (if a0_0 = a1_0 then (if a0_1 = a1_1 then (if a0_2 = a1_2 then (some true) else (some false)) else (some false)) else (some false)) = some r := h
 clear h
 by_cases c3 : a0_0 = a1_0
 ·rw [if_pos c3] at H
  have c3b0 : (a0_0 == a1_0) = true := beq_iff_eq.mpr c3
  have c3b1 : (a0_0 != a1_0) = false := bne_eq_false_iff_eq.mpr c3
  clear c3
  by_cases c4 : a0_1 = a1_1
  ·rw [if_pos c4] at H
   have c4b0 : (a0_1 == a1_1) = true := beq_iff_eq.mpr c4
   have c4b1 : (a0_1 != a1_1) = false := bne_eq_false_iff_eq.mpr c4
   clear c4
   by_cases c5 : a0_2 = a1_2
   ·rw [if_pos c5] at H
    have c5b0 : (a0_2 == a1_2) = true := beq_iff_eq.mpr c5
    have c5b1 : (a0_2 != a1_2) = false := bne_eq_false_iff_eq.mpr c5
    clear c5
    obtain rfl := Option.some.inj H
    go_enter Tryd.func49, Tryd.ntmps49
    go_wp2_with (first | ((with_reducible refine gate_dst (N := 2) rfl ?_); refine box_event ?hg (N := 2) ?hd (cs := #[.int .i64 a0_0, .int .i64 a0_1, .int .i64 a0_2]) (t := 52) ?hr ?_; (case hd => rfl); (case hg => rfl); (case hr => first | (go_simp; done) | (go_simp; rfl)); intro gb293 hg w6 hbox hb; have n0_ := Aside0.mk (below_step (bl0_ HB.out) hb); have n1_ := Aside0.mk (hbox); have n2_ := Aside0.mk ((by rw [hg]; exact (below_size (bl0_ HB.out)) : w.heap.size ≤ gb293)); have n3_ := Aside0.mk ((by rw [hg]; exact (below_size (bl0_ HB.out)) : w.heap.size ≤ gb293)); clear HB; have HB := n0_; have BK293 := n1_; have GW293 := n2_; have GE293 := n3_; clear n0_ n1_ n2_ n3_; clear hb hbox hg) | ((with_reducible refine gate_dst (N := 3) rfl ?_); refine box_event ?hg (N := 3) ?hd (cs := #[.int .i64 a1_0, .int .i64 a1_1, .int .i64 a1_2]) (t := 52) ?hr ?_; (case hd => rfl); (case hg => rfl); (case hr => first | (go_simp; done) | (go_simp; rfl)); intro gb294 hg w7 hbox hb; have n0_ := Aside0.mk (blk_below (g := gb293) (o := .cells #[.int .i64 a0_0, .int .i64 a0_1, .int .i64 a0_2] 52 (0, 0)) (bk_ BK293.out) hb); have n1_ := Aside0.mk (below_step (bl1_ HB.out GE293.out) hb); have n2_ := Aside0.mk (hbox); have n3_ := Aside0.mk ((by rw [hg]; exact (below_size (bl1_ HB.out GE293.out)) : w.heap.size ≤ gb294)); have n4_ := Aside0.mk ((by rw [hg]; exact (below_size (bl1_ HB.out GE293.out)) : w.heap.size ≤ gb294)); have n5_ := Aside0.mk ((by rw [hg]; exact Nat.ne_of_lt (blk_lt (bk_ BK293.out)) : gb293 ≠ gb294)); have n6_ := Aside0.mk ((by rw [hg]; exact Nat.ne_of_gt (blk_lt (bk_ BK293.out)) : gb294 ≠ gb293)); clear BK293; clear HB; have BK293 := n0_; have HB := n1_; have BK294 := n2_; have GW294 := n3_; have GE294 := n4_; have NB293_294 := n5_; have NB294_293 := n6_; clear n0_ n1_ n2_ n3_ n4_ n5_ n6_; clear hb hbox hg; have hnb8 := NB293_294.out; have hnc8 := NB294_293.out; obtain ⟨hcz9_0, hcz9_1, hcz9_2, hfz9_0, hfz9_1, hfz9_2⟩ := cz3_ BK293.out; obtain ⟨hcz10_0, hcz10_1, hcz10_2, hfz10_0, hfz10_1, hfz10_2⟩ := cz3_ BK294.out))
    go_ret
    exact ⟨re_, bl2_ HB.out GE293.out GE294.out⟩
   ·rw [if_neg c5] at H
    have c5b0 : (a0_2 == a1_2) = false := beq_eq_false_iff_ne.mpr c5
    have c5b1 : (a0_2 != a1_2) = true := bne_iff_ne.mpr c5
    obtain rfl := Option.some.inj H
    go_enter Tryd.func49, Tryd.ntmps49
    go_wp2_with (first | ((with_reducible refine gate_dst (N := 2) rfl ?_); refine box_event ?hg (N := 2) ?hd (cs := #[.int .i64 a0_0, .int .i64 a0_1, .int .i64 a0_2]) (t := 52) ?hr ?_; (case hd => rfl); (case hg => rfl); (case hr => first | (go_simp; done) | (go_simp; rfl)); intro gb293 hg w11 hbox hb; have n0_ := Aside0.mk (below_step (bl0_ HB.out) hb); have n1_ := Aside0.mk (hbox); have n2_ := Aside0.mk ((by rw [hg]; exact (below_size (bl0_ HB.out)) : w.heap.size ≤ gb293)); have n3_ := Aside0.mk ((by rw [hg]; exact (below_size (bl0_ HB.out)) : w.heap.size ≤ gb293)); clear HB; have HB := n0_; have BK293 := n1_; have GW293 := n2_; have GE293 := n3_; clear n0_ n1_ n2_ n3_; clear hb hbox hg) | ((with_reducible refine gate_dst (N := 3) rfl ?_); refine box_event ?hg (N := 3) ?hd (cs := #[.int .i64 a1_0, .int .i64 a1_1, .int .i64 a1_2]) (t := 52) ?hr ?_; (case hd => rfl); (case hg => rfl); (case hr => first | (go_simp; done) | (go_simp; rfl)); intro gb294 hg w12 hbox hb; have n0_ := Aside0.mk (blk_below (g := gb293) (o := .cells #[.int .i64 a0_0, .int .i64 a0_1, .int .i64 a0_2] 52 (0, 0)) (bk_ BK293.out) hb); have n1_ := Aside0.mk (below_step (bl1_ HB.out GE293.out) hb); have n2_ := Aside0.mk (hbox); have n3_ := Aside0.mk ((by rw [hg]; exact (below_size (bl1_ HB.out GE293.out)) : w.heap.size ≤ gb294)); have n4_ := Aside0.mk ((by rw [hg]; exact (below_size (bl1_ HB.out GE293.out)) : w.heap.size ≤ gb294)); have n5_ := Aside0.mk ((by rw [hg]; exact Nat.ne_of_lt (blk_lt (bk_ BK293.out)) : gb293 ≠ gb294)); have n6_ := Aside0.mk ((by rw [hg]; exact Nat.ne_of_gt (blk_lt (bk_ BK293.out)) : gb294 ≠ gb293)); clear BK293; clear HB; have BK293 := n0_; have HB := n1_; have BK294 := n2_; have GW294 := n3_; have GE294 := n4_; have NB293_294 := n5_; have NB294_293 := n6_; clear n0_ n1_ n2_ n3_ n4_ n5_ n6_; clear hb hbox hg; have hnb13 := NB293_294.out; have hnc13 := NB294_293.out; obtain ⟨hcz14_0, hcz14_1, hcz14_2, hfz14_0, hfz14_1, hfz14_2⟩ := cz3_ BK293.out; obtain ⟨hcz15_0, hcz15_1, hcz15_2, hfz15_0, hfz15_1, hfz15_2⟩ := cz3_ BK294.out))
    go_ret
    exact ⟨re_, bl2_ HB.out GE293.out GE294.out⟩
  ·rw [if_neg c4] at H
   have c4b0 : (a0_1 == a1_1) = false := beq_eq_false_iff_ne.mpr c4
   have c4b1 : (a0_1 != a1_1) = true := bne_iff_ne.mpr c4
   obtain rfl := Option.some.inj H
   go_enter Tryd.func49, Tryd.ntmps49
   go_wp2_with (first | ((with_reducible refine gate_dst (N := 2) rfl ?_); refine box_event ?hg (N := 2) ?hd (cs := #[.int .i64 a0_0, .int .i64 a0_1, .int .i64 a0_2]) (t := 52) ?hr ?_; (case hd => rfl); (case hg => rfl); (case hr => first | (go_simp; done) | (go_simp; rfl)); intro gb293 hg w16 hbox hb; have n0_ := Aside0.mk (below_step (bl0_ HB.out) hb); have n1_ := Aside0.mk (hbox); have n2_ := Aside0.mk ((by rw [hg]; exact (below_size (bl0_ HB.out)) : w.heap.size ≤ gb293)); have n3_ := Aside0.mk ((by rw [hg]; exact (below_size (bl0_ HB.out)) : w.heap.size ≤ gb293)); clear HB; have HB := n0_; have BK293 := n1_; have GW293 := n2_; have GE293 := n3_; clear n0_ n1_ n2_ n3_; clear hb hbox hg) | ((with_reducible refine gate_dst (N := 3) rfl ?_); refine box_event ?hg (N := 3) ?hd (cs := #[.int .i64 a1_0, .int .i64 a1_1, .int .i64 a1_2]) (t := 52) ?hr ?_; (case hd => rfl); (case hg => rfl); (case hr => first | (go_simp; done) | (go_simp; rfl)); intro gb294 hg w17 hbox hb; have n0_ := Aside0.mk (blk_below (g := gb293) (o := .cells #[.int .i64 a0_0, .int .i64 a0_1, .int .i64 a0_2] 52 (0, 0)) (bk_ BK293.out) hb); have n1_ := Aside0.mk (below_step (bl1_ HB.out GE293.out) hb); have n2_ := Aside0.mk (hbox); have n3_ := Aside0.mk ((by rw [hg]; exact (below_size (bl1_ HB.out GE293.out)) : w.heap.size ≤ gb294)); have n4_ := Aside0.mk ((by rw [hg]; exact (below_size (bl1_ HB.out GE293.out)) : w.heap.size ≤ gb294)); have n5_ := Aside0.mk ((by rw [hg]; exact Nat.ne_of_lt (blk_lt (bk_ BK293.out)) : gb293 ≠ gb294)); have n6_ := Aside0.mk ((by rw [hg]; exact Nat.ne_of_gt (blk_lt (bk_ BK293.out)) : gb294 ≠ gb293)); clear BK293; clear HB; have BK293 := n0_; have HB := n1_; have BK294 := n2_; have GW294 := n3_; have GE294 := n4_; have NB293_294 := n5_; have NB294_293 := n6_; clear n0_ n1_ n2_ n3_ n4_ n5_ n6_; clear hb hbox hg; have hnb18 := NB293_294.out; have hnc18 := NB294_293.out; obtain ⟨hcz19_0, hcz19_1, hcz19_2, hfz19_0, hfz19_1, hfz19_2⟩ := cz3_ BK293.out; obtain ⟨hcz20_0, hcz20_1, hcz20_2, hfz20_0, hfz20_1, hfz20_2⟩ := cz3_ BK294.out))
   go_ret
   exact ⟨re_, bl2_ HB.out GE293.out GE294.out⟩
 ·rw [if_neg c3] at H
  have c3b0 : (a0_0 == a1_0) = false := beq_eq_false_iff_ne.mpr c3
  have c3b1 : (a0_0 != a1_0) = true := bne_iff_ne.mpr c3
  obtain rfl := Option.some.inj H
  go_enter Tryd.func49, Tryd.ntmps49
  go_wp2_with (first | ((with_reducible refine gate_dst (N := 2) rfl ?_); refine box_event ?hg (N := 2) ?hd (cs := #[.int .i64 a0_0, .int .i64 a0_1, .int .i64 a0_2]) (t := 52) ?hr ?_; (case hd => rfl); (case hg => rfl); (case hr => first | (go_simp; done) | (go_simp; rfl)); intro gb293 hg w21 hbox hb; have n0_ := Aside0.mk (below_step (bl0_ HB.out) hb); have n1_ := Aside0.mk (hbox); have n2_ := Aside0.mk ((by rw [hg]; exact (below_size (bl0_ HB.out)) : w.heap.size ≤ gb293)); have n3_ := Aside0.mk ((by rw [hg]; exact (below_size (bl0_ HB.out)) : w.heap.size ≤ gb293)); clear HB; have HB := n0_; have BK293 := n1_; have GW293 := n2_; have GE293 := n3_; clear n0_ n1_ n2_ n3_; clear hb hbox hg) | ((with_reducible refine gate_dst (N := 3) rfl ?_); refine box_event ?hg (N := 3) ?hd (cs := #[.int .i64 a1_0, .int .i64 a1_1, .int .i64 a1_2]) (t := 52) ?hr ?_; (case hd => rfl); (case hg => rfl); (case hr => first | (go_simp; done) | (go_simp; rfl)); intro gb294 hg w22 hbox hb; have n0_ := Aside0.mk (blk_below (g := gb293) (o := .cells #[.int .i64 a0_0, .int .i64 a0_1, .int .i64 a0_2] 52 (0, 0)) (bk_ BK293.out) hb); have n1_ := Aside0.mk (below_step (bl1_ HB.out GE293.out) hb); have n2_ := Aside0.mk (hbox); have n3_ := Aside0.mk ((by rw [hg]; exact (below_size (bl1_ HB.out GE293.out)) : w.heap.size ≤ gb294)); have n4_ := Aside0.mk ((by rw [hg]; exact (below_size (bl1_ HB.out GE293.out)) : w.heap.size ≤ gb294)); have n5_ := Aside0.mk ((by rw [hg]; exact Nat.ne_of_lt (blk_lt (bk_ BK293.out)) : gb293 ≠ gb294)); have n6_ := Aside0.mk ((by rw [hg]; exact Nat.ne_of_gt (blk_lt (bk_ BK293.out)) : gb294 ≠ gb293)); clear BK293; clear HB; have BK293 := n0_; have HB := n1_; have BK294 := n2_; have GW294 := n3_; have GE294 := n4_; have NB293_294 := n5_; have NB294_293 := n6_; clear n0_ n1_ n2_ n3_ n4_ n5_ n6_; clear hb hbox hg; have hnb23 := NB293_294.out; have hnc23 := NB294_293.out; obtain ⟨hcz24_0, hcz24_1, hcz24_2, hfz24_0, hfz24_1, hfz24_2⟩ := cz3_ BK293.out; obtain ⟨hcz25_0, hcz25_1, hcz25_2, hfz25_0, hfz25_1, hfz25_2⟩ := cz3_ BK294.out))
  go_ret
  exact ⟨re_, bl2_ HB.out GE293.out GE294.out⟩

/-! ### laws_eqTreeEdgeS: function 34 -/
def laws_eqTreeEdgeS.l0 : Nat → List (S52) → List (S52) → Int → Option (Bool)
 | 0, _, _, _ => none
 | k + 1, x0, x1, x5 => if x5 < (x0.length : Int) then (if 0 ≤ x5 then (if x5 < (x1.length : Int) then ((laws_eqTreeEdge.f ((rd_T52 x0 x5).f0) ((rd_T52 x0 x5).f1) ((rd_T52 x0 x5).f2) ((rd_T52 x1 x5).f0) ((rd_T52 x1 x5).f1) ((rd_T52 x1 x5).f2)).bind fun t297 => (if t297 = true then (laws_eqTreeEdgeS.l0 k x0 x1 (wrap64 (x5 + 1))) else (some false))) else (none)) else (none)) else (some true)
def laws_eqTreeEdgeS.f (k : Nat) (l0 : List (S52)) (l1 : List (S52)) : Option (Bool) := if (l0.length : Int) = (l1.length : Int) then (laws_eqTreeEdgeS.l0 k l0 l1 0) else (some false)
theorem laws_eqTreeEdgeS.mono_l : ∀ k, (∀ y0 y1 y2, LeO (laws_eqTreeEdgeS.l0 k y0 y1 y2) (laws_eqTreeEdgeS.l0 (k + 1) y0 y1 y2))
 | 0 => fun _ _ _ r h => by simp [laws_eqTreeEdgeS.l0] at h
 | k + 1 => by
  have ih0 := laws_eqTreeEdgeS.mono_l k
  ·intro y0 y1 y2
   unfold laws_eqTreeEdgeS.l0
   repeat' first
   | (with_reducible exact ih0 _ _ _)
   | (with_reducible exact LeO.refl _)
   | (with_reducible exact LeO.none _)
   | (with_reducible refine LeO.ite ?_ ?_)
   | (with_reducible refine LeO.bind ?_ (fun _ => ?_))
theorem laws_eqTreeEdgeS.mono : ∀ a0 a1 k, LeO (laws_eqTreeEdgeS.f k a0 a1) (laws_eqTreeEdgeS.f (k + 1) a0 a1) := by
 intro a0 a1 k
 have ih0 := laws_eqTreeEdgeS.mono_l k
 unfold laws_eqTreeEdgeS.f
 repeat' first
   | (with_reducible exact ih0 _ _ _)
   | (with_reducible exact LeO.refl _)
   | (with_reducible exact LeO.none _)
   | (with_reducible refine LeO.ite ?_ ?_)
   | (with_reducible refine LeO.bind ?_ (fun _ => ?_))
def laws_eqTreeEdgeS.T6 : Bool × List (List Nat × List Nat) := (true, [([], []), ([], []), ([0, 1], [0, 1]), ([2], [2]), ([], []), ([], []), ([4, 5], [4, 5]), ([6], [6]), ([3, 7], [3, 7]), ([8], [8])])
def laws_eqTreeEdgeS.B6 : List Nat := [0, 0, 3, 7, 0, 0, 48, 112, 255, 511]
theorem laws_eqTreeEdgeS.tab6 : rtab .any (opsOf Tryd.f34 6) = laws_eqTreeEdgeS.T6 := by kernel_rfl
theorem laws_eqTreeEdgeS.bits6 : waitsOk laws_eqTreeEdgeS.T6.2 laws_eqTreeEdgeS.B6 = true := by kernel_rfl
set_option maxHeartbeats 8000000 in
set_option maxRecDepth 100000 in
theorem laws_eqTreeEdgeS.calls (k : Nat) (A0 : Option Addr) (c0 : Nat) (l0 : List (S52)) (A1 : Option Addr) (c1 : Nat) (l1 : List (S52)) (r : Bool) (w : World) (hr0 : Kd.C k52 w A0 l0.length l0) (hc0 : l0.length ≤ c0) (hr1 : Kd.C k52 w A1 l1.length l1) (hc1 : l1.length ≤ c1) (h : laws_eqTreeEdgeS.f k l0 l1 = some r) :
  Calls Tryd.prog 34 #[.slice A0 l0.length c0, .slice A1 l1.length c1] w fun e w' => e = .returned (.bool r) ∧ Below w.heap.size w w' := by
 have hu52 := Tryd.underlying52
 have HR0 := Aside0.mk hr0
 have HC0 := Aside0.mk hc0
 clear hr0 hc0
 have HR1 := Aside0.mk hr1
 have HC1 := Aside0.mk hc1
 clear hr1 hc1
 have HB := Aside0.mk (Below.refl w.heap.size w)
 have H : (if (l0.length : Int) = (l1.length : Int) then (laws_eqTreeEdgeS.l0 k l0 l1 0) else (some false)) = some r := h
 clear h
 by_cases c3 : (l0.length : Int) = (l1.length : Int)
 ·rw [if_pos c3] at H
  have c3b0 : ((l0.length : Int) == (l1.length : Int)) = true := beq_iff_eq.mpr c3
  have c3b1 : ((l0.length : Int) != (l1.length : Int)) = false := bne_eq_false_iff_eq.mpr c3
  have c3b2 : (l0.length == l1.length) = true := by first | simpa using c3 | (simp at c3 ⊢; omega)
  clear c3
  have H' := Aside0.mk H
  clear H
  go_enter Tryd.func34, Tryd.ntmps34
  go_wp2
  go_loopg [5] k (fun kq v5 w' => ∃ (x5_1 : Int), v5 = .int .i64 x5_1 ∧ Aside0 (laws_eqTreeEdgeS.l0 kq l0 l1 x5_1 = some r) ∧ Aside0 (kq ≤ k) ∧ Aside0 (Below w.heap.size w w'))
  case atStart => exact ⟨(0), rs_, H', ⟨Nat.le_refl _⟩, ⟨bl0_ HB.out⟩⟩
  case round =>
   clear H'
   try clear c1
   try clear p2
   try clear c3
   try clear c3b0
   try clear c3b1
   try clear c3b2
   obtain ⟨x5_1, rfl, HA, HK1, HB⟩ := hrel
   cases gk with
   | zero => exact absurd HA.out (by simp [laws_eqTreeEdgeS.l0])
   | succ k1 =>
    have H := HA.out
    clear HA
    simp only [laws_eqTreeEdgeS.l0] at H
    by_cases c4 : x5_1 < (l0.length : Int)
    ·rw [if_pos c4] at H
     have c4b0 := decide_eq_true c4
     clear c4
     by_cases c5 : 0 ≤ x5_1
     rotate_left
     ·exact nope_ c5 H
     rw [if_pos c5] at H
     have c5b0 := decide_eq_true c5
     clear c5
     by_cases c6 : x5_1 < (l1.length : Int)
     rotate_left
     ·exact nope_ c6 H
     rw [if_pos c6] at H
     have c6b0 := decide_eq_true c6
     clear c6
     replace H := Option.bind_eq_some_iff.mp H
     obtain ⟨t297, A70, H⟩ := H
     replace H : (if t297 = true then (laws_eqTreeEdgeS.l0 k1 l0 l1 (wrap64 (x5_1 + 1))) else (some false)) = some r := H
     have A7 := Aside0.mk A70
     clear A70
     by_cases c8 : t297 = true
     ·subst c8
      have H1 : (laws_eqTreeEdgeS.l0 k1 l0 l1 (wrap64 (x5_1 + 1))) = some r := by rw [if_pos rfl] at H; exact H
      clear H
      have H := H1
      clear H1
      have H' := Aside0.mk H
      clear H
      try go_wp2
      have n0_ := Aside0.mk (below_drew1 HB.out)
      clear HB
      have HB := n0_
      clear n0_
      have p295 : 0 ≤ (x5_1 : Int) := od_
      have q295 : x5_1 < (l0.length : Int) := od_
      obtain ⟨ad295, e295, hx295_0, hx295_1, hx295_2⟩ := at_T52 HR0.out x5_1 p295 q295
      have hw295_2 := hx295_2
      have hw295_1 := hx295_1
      have hw295_0 := hx295_0
      cases e295
      replace hx295_0 := (HB.out.cell (World.block_lt_of_cell? w _ hx295_0)).trans hx295_0
      replace hx295_1 := (HB.out.cell (World.block_lt_of_cell? w _ hx295_1)).trans hx295_1
      replace hx295_2 := (HB.out.cell (World.block_lt_of_cell? w _ hx295_2)).trans hx295_2
      replace p295 := eq_true p295
      replace q295 := eq_true q295
      have p296 : 0 ≤ (x5_1 : Int) := od_
      have q296 : x5_1 < (l1.length : Int) := od_
      obtain ⟨ad296, e296, hx296_0, hx296_1, hx296_2⟩ := at_T52 HR1.out x5_1 p296 q296
      have hw296_2 := hx296_2
      have hw296_1 := hx296_1
      have hw296_0 := hx296_0
      cases e296
      replace hx296_0 := (HB.out.cell (World.block_lt_of_cell? w _ hx296_0)).trans hx296_0
      replace hx296_1 := (HB.out.cell (World.block_lt_of_cell? w _ hx296_1)).trans hx296_1
      replace hx296_2 := (HB.out.cell (World.block_lt_of_cell? w _ hx296_2)).trans hx296_2
      replace p296 := eq_true p296
      replace q296 := eq_true q296
      refine start_ (n := 10) (S := fun w' => w'.cell? (ad295.add ((x5_1).toNat * 3)) = some (.int .i64 ((rd_T52 l0 x5_1).f0)) ∧ w'.cell? ⟨(ad295.add ((x5_1).toNat * 3)).block, (ad295.add ((x5_1).toNat * 3)).off + 1, none⟩ = some (.int .i64 ((rd_T52 l0 x5_1).f1)) ∧ w'.cell? ⟨(ad295.add ((x5_1).toNat * 3)).block, (ad295.add ((x5_1).toNat * 3)).off + 2, none⟩ = some (.int .i64 ((rd_T52 l0 x5_1).f2)) ∧ w'.cell? (ad296.add ((x5_1).toNat * 3)) = some (.int .i64 ((rd_T52 l1 x5_1).f0)) ∧ w'.cell? ⟨(ad296.add ((x5_1).toNat * 3)).block, (ad296.add ((x5_1).toNat * 3)).off + 1, none⟩ = some (.int .i64 ((rd_T52 l1 x5_1).f1)) ∧ w'.cell? ⟨(ad296.add ((x5_1).toNat * 3)).block, (ad296.add ((x5_1).toNat * 3)).off + 2, none⟩ = some (.int .i64 ((rd_T52 l1 x5_1).f2))) (ds := []) (nb_ 10 0) (by kernel_rfl) rfl rfl ⟨((HB.out.cell (World.block_lt_of_cell? w _ hw295_0)).trans hw295_0), ((HB.out.cell (World.block_lt_of_cell? w _ hw295_1)).trans hw295_1), ((HB.out.cell (World.block_lt_of_cell? w _ hw295_2)).trans hw295_2), ((HB.out.cell (World.block_lt_of_cell? w _ hw296_0)).trans hw296_0), ((HB.out.cell (World.block_lt_of_cell? w _ hw296_1)).trans hw296_1), ((HB.out.cell (World.block_lt_of_cell? w _ hw296_2)).trans hw296_2)⟩ (fun hHeld => ?_); refine with_tabW laws_eqTreeEdgeS.tab6 laws_eqTreeEdgeS.bits6 (fun HT_ HW_ => ?_)
      generalize wr.drew = w9 at HB hx295_0 hx295_1 hx295_2 hx296_0 hx296_1 hx296_2 hHeld ⊢
      refine puz_ 0 (some 17) (nb_ 10 1) rfl rfl (any_of HT_.out (by kernel_rfl)) ?_
      refine puz_ 1 (some 18) (nb_ 10 3) rfl rfl (any_of HT_.out (by kernel_rfl)) ?_
      refine puz_ 2 (some 19) (nb_ 10 7) rfl rfl (any_of HT_.out (by kernel_rfl)) ?_
      refine puz_ 4 (some 21) (nb_ 10 23) rfl rfl (any_of HT_.out (by kernel_rfl)) ?_
      refine puz_ 5 (some 22) (nb_ 10 55) rfl rfl (any_of HT_.out (by kernel_rfl)) ?_
      refine puz_ 6 (some 23) (nb_ 10 119) rfl rfl (any_of HT_.out (by kernel_rfl)) ?_
      refine tkz_ 3 (some 20) (nb_ 10 127) rfl rfl (take_ofW HT_.out HW_.out (by kernel_rfl)) hHeld ?_
      refine tkz_ 7 (some 24) (nb_ 10 255) rfl rfl (take_ofW HT_.out HW_.out (by kernel_rfl)) hHeld ?_
      refine one_ (i := 8) (N := some 25) (nb_ 10 511) rfl rfl (one_of HT_.out (by kernel_rfl)) (by decide) (fun K hK => ?_)
      refine goes_ Tryd.func49 (by kernel_rfl) rfl #[.agg #[.int .i64 ((rd_T52 l0 x5_1).f0), .int .i64 ((rd_T52 l0 x5_1).f1), .int .i64 ((rd_T52 l0 x5_1).f2)], .agg #[.int .i64 ((rd_T52 l1 x5_1).f0), .int .i64 ((rd_T52 l1 x5_1).f1), .int .i64 ((rd_T52 l1 x5_1).f2)]] (by rfl) rfl rfl mp_ ?_
      with_reducible refine (laws_eqTreeEdge.calls ((rd_T52 l0 x5_1).f0) ((rd_T52 l0 x5_1).f1) ((rd_T52 l0 x5_1).f2) ((rd_T52 l1 x5_1).f0) ((rd_T52 l1 x5_1).f1) ((rd_T52 l1 x5_1).f2) true _ A7.out).mono ?_
      rintro e w10 ⟨rfl, hb⟩
      refine ⟨_, rfl, ?_⟩
      have n0_ := Aside0.mk (below_step (bl0_ HB.out) hb)
      clear HB
      have HB := n0_
      clear n0_
      (try clear hb)
      (try clear hb2)
      (try clear hk)
      (try clear hi)
      refine hK.out _ _ ⟨((HB.out.cell (World.block_lt_of_cell? w _ hw295_0)).trans hw295_0), ((HB.out.cell (World.block_lt_of_cell? w _ hw295_1)).trans hw295_1), ((HB.out.cell (World.block_lt_of_cell? w _ hw295_2)).trans hw295_2), ((HB.out.cell (World.block_lt_of_cell? w _ hw296_0)).trans hw296_0), ((HB.out.cell (World.block_lt_of_cell? w _ hw296_1)).trans hw296_1), ((HB.out.cell (World.block_lt_of_cell? w _ hw296_2)).trans hw296_2)⟩ (fun hHeld => ?_)
      clear hK K
      refine norm_ (a' := ?_) ?_ ?_
      rotate_left
      ·show Act.put _ (some 25) _ = _
       simp only [Act.put, List.setIfInBounds_toArray, List.set_cons_zero, List.set_cons_succ, i64_w, i32_w]
       rfl
      refine puz_ 9 (some 26) (nb_ 10 1023) rfl rfl (any_of HT_.out (by kernel_rfl)) ?_
      refine done_ (done_of HT_.out (by kernel_rfl)) ?_
      try go_wp2
      go_roundg k1
      case measure => have := HK1.out; omega
      case rel => exact ⟨(wrap64 (x5_1 + 1)), rs_, H', ⟨by have := HK1.out; omega⟩, ⟨bl0_ HB.out⟩⟩
     ·replace c8 := Bool.eq_false_iff.mpr c8
      subst c8
      have H1 : (some false) = some r := by rw [if_neg (show ¬ (false = true) by decide)] at H; exact H
      clear H
      have H := H1
      clear H1
      obtain rfl := Option.some.inj H
      try go_wp2
      have n0_ := Aside0.mk (below_drew1 HB.out)
      clear HB
      have HB := n0_
      clear n0_
      have p295 : 0 ≤ (x5_1 : Int) := od_
      have q295 : x5_1 < (l0.length : Int) := od_
      obtain ⟨ad295, e295, hx295_0, hx295_1, hx295_2⟩ := at_T52 HR0.out x5_1 p295 q295
      have hw295_2 := hx295_2
      have hw295_1 := hx295_1
      have hw295_0 := hx295_0
      cases e295
      replace hx295_0 := (HB.out.cell (World.block_lt_of_cell? w _ hx295_0)).trans hx295_0
      replace hx295_1 := (HB.out.cell (World.block_lt_of_cell? w _ hx295_1)).trans hx295_1
      replace hx295_2 := (HB.out.cell (World.block_lt_of_cell? w _ hx295_2)).trans hx295_2
      replace p295 := eq_true p295
      replace q295 := eq_true q295
      have p296 : 0 ≤ (x5_1 : Int) := od_
      have q296 : x5_1 < (l1.length : Int) := od_
      obtain ⟨ad296, e296, hx296_0, hx296_1, hx296_2⟩ := at_T52 HR1.out x5_1 p296 q296
      have hw296_2 := hx296_2
      have hw296_1 := hx296_1
      have hw296_0 := hx296_0
      cases e296
      replace hx296_0 := (HB.out.cell (World.block_lt_of_cell? w _ hx296_0)).trans hx296_0
      replace hx296_1 := (HB.out.cell (World.block_lt_of_cell? w _ hx296_1)).trans hx296_1
      replace hx296_2 := (HB.out.cell (World.block_lt_of_cell? w _ hx296_2)).trans hx296_2
      replace p296 := eq_true p296
      replace q296 := eq_true q296
      refine start_ (n := 10) (S := fun w' => w'.cell? (ad295.add ((x5_1).toNat * 3)) = some (.int .i64 ((rd_T52 l0 x5_1).f0)) ∧ w'.cell? ⟨(ad295.add ((x5_1).toNat * 3)).block, (ad295.add ((x5_1).toNat * 3)).off + 1, none⟩ = some (.int .i64 ((rd_T52 l0 x5_1).f1)) ∧ w'.cell? ⟨(ad295.add ((x5_1).toNat * 3)).block, (ad295.add ((x5_1).toNat * 3)).off + 2, none⟩ = some (.int .i64 ((rd_T52 l0 x5_1).f2)) ∧ w'.cell? (ad296.add ((x5_1).toNat * 3)) = some (.int .i64 ((rd_T52 l1 x5_1).f0)) ∧ w'.cell? ⟨(ad296.add ((x5_1).toNat * 3)).block, (ad296.add ((x5_1).toNat * 3)).off + 1, none⟩ = some (.int .i64 ((rd_T52 l1 x5_1).f1)) ∧ w'.cell? ⟨(ad296.add ((x5_1).toNat * 3)).block, (ad296.add ((x5_1).toNat * 3)).off + 2, none⟩ = some (.int .i64 ((rd_T52 l1 x5_1).f2))) (ds := []) (nb_ 10 0) (by kernel_rfl) rfl rfl ⟨((HB.out.cell (World.block_lt_of_cell? w _ hw295_0)).trans hw295_0), ((HB.out.cell (World.block_lt_of_cell? w _ hw295_1)).trans hw295_1), ((HB.out.cell (World.block_lt_of_cell? w _ hw295_2)).trans hw295_2), ((HB.out.cell (World.block_lt_of_cell? w _ hw296_0)).trans hw296_0), ((HB.out.cell (World.block_lt_of_cell? w _ hw296_1)).trans hw296_1), ((HB.out.cell (World.block_lt_of_cell? w _ hw296_2)).trans hw296_2)⟩ (fun hHeld => ?_); refine with_tabW laws_eqTreeEdgeS.tab6 laws_eqTreeEdgeS.bits6 (fun HT_ HW_ => ?_)
      generalize wr.drew = w11 at HB hx295_0 hx295_1 hx295_2 hx296_0 hx296_1 hx296_2 hHeld ⊢
      refine puz_ 0 (some 17) (nb_ 10 1) rfl rfl (any_of HT_.out (by kernel_rfl)) ?_
      refine puz_ 1 (some 18) (nb_ 10 3) rfl rfl (any_of HT_.out (by kernel_rfl)) ?_
      refine puz_ 2 (some 19) (nb_ 10 7) rfl rfl (any_of HT_.out (by kernel_rfl)) ?_
      refine puz_ 4 (some 21) (nb_ 10 23) rfl rfl (any_of HT_.out (by kernel_rfl)) ?_
      refine puz_ 5 (some 22) (nb_ 10 55) rfl rfl (any_of HT_.out (by kernel_rfl)) ?_
      refine puz_ 6 (some 23) (nb_ 10 119) rfl rfl (any_of HT_.out (by kernel_rfl)) ?_
      refine tkz_ 3 (some 20) (nb_ 10 127) rfl rfl (take_ofW HT_.out HW_.out (by kernel_rfl)) hHeld ?_
      refine tkz_ 7 (some 24) (nb_ 10 255) rfl rfl (take_ofW HT_.out HW_.out (by kernel_rfl)) hHeld ?_
      refine one_ (i := 8) (N := some 25) (nb_ 10 511) rfl rfl (one_of HT_.out (by kernel_rfl)) (by decide) (fun K hK => ?_)
      refine goes_ Tryd.func49 (by kernel_rfl) rfl #[.agg #[.int .i64 ((rd_T52 l0 x5_1).f0), .int .i64 ((rd_T52 l0 x5_1).f1), .int .i64 ((rd_T52 l0 x5_1).f2)], .agg #[.int .i64 ((rd_T52 l1 x5_1).f0), .int .i64 ((rd_T52 l1 x5_1).f1), .int .i64 ((rd_T52 l1 x5_1).f2)]] (by rfl) rfl rfl mp_ ?_
      with_reducible refine (laws_eqTreeEdge.calls ((rd_T52 l0 x5_1).f0) ((rd_T52 l0 x5_1).f1) ((rd_T52 l0 x5_1).f2) ((rd_T52 l1 x5_1).f0) ((rd_T52 l1 x5_1).f1) ((rd_T52 l1 x5_1).f2) false _ A7.out).mono ?_
      rintro e w12 ⟨rfl, hb⟩
      refine ⟨_, rfl, ?_⟩
      have n0_ := Aside0.mk (below_step (bl0_ HB.out) hb)
      clear HB
      have HB := n0_
      clear n0_
      (try clear hb)
      (try clear hb2)
      (try clear hk)
      (try clear hi)
      refine hK.out _ _ ⟨((HB.out.cell (World.block_lt_of_cell? w _ hw295_0)).trans hw295_0), ((HB.out.cell (World.block_lt_of_cell? w _ hw295_1)).trans hw295_1), ((HB.out.cell (World.block_lt_of_cell? w _ hw295_2)).trans hw295_2), ((HB.out.cell (World.block_lt_of_cell? w _ hw296_0)).trans hw296_0), ((HB.out.cell (World.block_lt_of_cell? w _ hw296_1)).trans hw296_1), ((HB.out.cell (World.block_lt_of_cell? w _ hw296_2)).trans hw296_2)⟩ (fun hHeld => ?_)
      clear hK K
      refine norm_ (a' := ?_) ?_ ?_
      rotate_left
      ·show Act.put _ (some 25) _ = _
       simp only [Act.put, List.setIfInBounds_toArray, List.set_cons_zero, List.set_cons_succ, i64_w, i32_w]
       rfl
      refine puz_ 9 (some 26) (nb_ 10 1023) rfl rfl (any_of HT_.out (by kernel_rfl)) ?_
      refine done_ (done_of HT_.out (by kernel_rfl)) ?_
      try go_wp2
      go_ret
      exact ⟨re_, bl0_ HB.out⟩
    ·rw [if_neg c4] at H
     have c4b0 := decide_eq_false c4
     clear c4
     obtain rfl := Option.some.inj H
     go_wp2
     go_ret
     exact ⟨re_, bl0_ HB.out⟩
 ·rw [if_neg c3] at H
  have c3b0 : ((l0.length : Int) == (l1.length : Int)) = false := beq_eq_false_iff_ne.mpr c3
  have c3b1 : ((l0.length : Int) != (l1.length : Int)) = true := bne_iff_ne.mpr c3
  have c3b2 : (l0.length == l1.length) = false := by first | simpa using c3 | (simp at c3 ⊢; omega)
  obtain rfl := Option.some.inj H
  go_enter Tryd.func34, Tryd.ntmps34
  go_wp2
  go_ret
  exact ⟨re_, bl0_ HB.out⟩

end Go.Proofs.YtddaiabilhjcpaaDoor.A
