/- For functions of the translation: a Lean function each, and that the call of the Go function comes to its answer. Written by this session's own program (myprint.py, over the kit's printer). -/
import Derived.Test.YtmckbecegiegaaaAx0
import Derived.Test.YtmckbecegiegaaaAx4
--compacted
namespace Go.Proofs.Ytmckbecegiegaaa.A
open Go.RowKit Go.Proofs.YtmckbecegiegaaaW.PrintWords Go.Proofs.YtmckbecegiegaaaW.PrintLast Go.Proofs.YtmckbecegiegaaaW.PrintMore
attribute [local go_sem] max2_int min2_int max_two min_two max_three min_three max_four min_four   -- for this text's walks alone
set_option linter.unusedVariables false
set_option linter.unusedSimpArgs false

/-! ### impl_isApart: function 30 -/
def impl_isApart.l0 : Nat → List (List Int) → List (S37) → Int → List (S37) → Int → Int → Option (Bool)
 | 0, _, _, _, _, _, _ => none
 | k + 1, x0, x1, x5, x14, x15, x16 => if x16 < x15 then (if 0 ≤ x16 then (if x16 < (x14.length : Int) then (if 0 ≤ x5 then (if x5 < (x0.length : Int) then (if x16 < ((rd_L2 x0 x5).length : Int) then (if x5 < (x1.length : Int) then ((impl_Spot_square.f ((rd_T37 x14 x16).f0) ((rd_T37 x14 x16).f1) ((rd_T37 x1 x5).f0) ((rd_T37 x1 x5).f1)).bind fun t204 => (if t204 < (wrap64 ((rd (rd_L2 x0 x5) x16) * (rd (rd_L2 x0 x5) x16))) then (some false) else (impl_isApart.l0 k x0 x1 x5 x14 x15 (wrap64 (x16 + 1))))) else (none)) else (none)) else (none)) else (none)) else (none)) else (none)) else (some true)
def impl_isApart.f (k : Nat) (l0 : List (List Int)) (l1 : List (S37)) : Option (Bool) := if 0 ≤ (wrap64 ((l1.length : Int) - 1)) then (if (wrap64 ((l1.length : Int) - 1)) ≤ (l1.length : Int) then ((some (l1.take ((wrap64 ((l1.length : Int) - 1)) : Int).toNat : List (S37))).bind fun y195 => (impl_isApart.l0 k l0 l1 (wrap64 ((l1.length : Int) - 1)) y195 (y195.length : Int) 0)) else (none)) else (none)
theorem impl_isApart.mono_l : ∀ k, (∀ y0 y1 y2 y3 y4 y5, LeO (impl_isApart.l0 k y0 y1 y2 y3 y4 y5) (impl_isApart.l0 (k + 1) y0 y1 y2 y3 y4 y5))
 | 0 => fun _ _ _ _ _ _ r h => by simp [impl_isApart.l0] at h
 | k + 1 => by
  have ih0 := impl_isApart.mono_l k
  ·intro y0 y1 y2 y3 y4 y5
   unfold impl_isApart.l0
   repeat' first
   | (with_reducible exact ih0 _ _ _ _ _ _)
   | (with_reducible exact LeO.refl _)
   | (with_reducible exact LeO.none _)
   | (with_reducible refine LeO.ite ?_ ?_)
   | (with_reducible refine LeO.bind ?_ (fun _ => ?_))
theorem impl_isApart.mono : ∀ a0 a1 k, LeO (impl_isApart.f k a0 a1) (impl_isApart.f (k + 1) a0 a1) := by
 intro a0 a1 k
 have ih0 := impl_isApart.mono_l k
 unfold impl_isApart.f
 repeat' first
   | (with_reducible exact ih0 _ _ _ _ _ _)
   | (with_reducible exact LeO.refl _)
   | (with_reducible exact LeO.none _)
   | (with_reducible refine LeO.ite ?_ ?_)
   | (with_reducible refine LeO.bind ?_ (fun _ => ?_))
def impl_isApart.T6 : Bool × List (List Nat × List Nat) := (true, [([], []), ([], []), ([], []), ([1, 2], [1, 2]), ([3], [3]), ([0, 4], [0, 4]), ([], []), ([], []), ([6, 7], [6, 7]), ([5, 8], [5, 8])])
def impl_isApart.B6 : List Nat := [0, 0, 0, 6, 14, 31, 0, 0, 192, 511]
theorem impl_isApart.tab6 : rtab .any (opsOf Try.f30 6) = impl_isApart.T6 := by kernel_rfl
theorem impl_isApart.bits6 : waitsOk impl_isApart.T6.2 impl_isApart.B6 = true := by kernel_rfl
set_option maxHeartbeats 8000000 in
set_option maxRecDepth 100000 in
theorem impl_isApart.calls (k : Nat) (A0 : Option Addr) (c0 : Nat) (l0 : List (List Int)) (A1 : Option Addr) (c1 : Nat) (l1 : List (S37)) (r : Bool) (w : World) (hr0 : Kd.C (Kd.slice 2 (Kd.int .i64)) w A0 l0.length l0) (hc0 : l0.length ≤ c0) (hr1 : Kd.C k37 w A1 l1.length l1) (hc1 : l1.length ≤ c1) (h : impl_isApart.f k l0 l1 = some r) :
  Calls Try.prog 30 #[.slice A0 l0.length c0, .slice A1 l1.length c1] w fun e w' => e = .returned (.bool r) ∧ Below w.heap.size w w' := by
 have hu37 := Try.underlying37
 have HR0 := Aside0.mk hr0
 have HC0 := Aside0.mk hc0
 clear hr0 hc0
 have HR1 := Aside0.mk hr1
 have HC1 := Aside0.mk hc1
 clear hr1 hc1
 have HB := Aside0.mk (Below.refl w.heap.size w)
 have H : (if 0 ≤ (wrap64 ((l1.length : Int) - 1)) then (if (wrap64 ((l1.length : Int) - 1)) ≤ (l1.length : Int) then ((some (l1.take ((wrap64 ((l1.length : Int) - 1)) : Int).toNat : List (S37))).bind fun y195 => (impl_isApart.l0 k l0 l1 (wrap64 ((l1.length : Int) - 1)) y195 (y195.length : Int) 0)) else (none)) else (none)) = some r := h
 clear h
 obtain ⟨ji3, hji3⟩ : ∃ j_ : Int, (wrap64 ((l1.length : Int) - 1)) = j_ := ⟨_, rfl⟩
 replace H : (if 0 ≤ (ji3) then (if (ji3) ≤ (l1.length : Int) then ((some (l1.take ((ji3) : Int).toNat : List (S37))).bind fun y195 => (impl_isApart.l0 k l0 l1 ji3 y195 (y195.length : Int) 0)) else (none)) else (none)) = some r := by first | (rw [hji3] at H; exact H) | (simp only [hji3] at H ⊢; exact H)
 have hji3w : (IntKind.i64.wrap ((l1.length : Int) - 1)) = ji3 := (i64_w _).trans hji3
 by_cases c4 : 0 ≤ (ji3)
 rotate_left
 ·exact nope_ c4 H
 rw [if_pos c4] at H
 have c4b0 := eq_true c4
 have c4b1 := decide_eq_true c4
 clear c4
 by_cases c5 : (ji3) ≤ (l1.length : Int)
 rotate_left
 ·exact nope_ c5 H
 rw [if_pos c5] at H
 have c5b0 := eq_true c5
 have c5b1 := decide_eq_true c5
 clear c5
 obtain ⟨y195, hy195⟩ : ∃ y_ : List (S37), y_ = (l1.take ((ji3) : Int).toNat) := ⟨_, rfl⟩
 replace H : (impl_isApart.l0 k l0 l1 ji3 y195 (y195.length : Int) 0) = some r := yh_ H hy195
 have Ny195 := Aside0.mk hy195
 clear hy195
 have H' := Aside0.mk H
 clear H
 have q6 : ((ji3) : Int) ≤ ((l1.length : Int) : Int) := od_
 obtain ⟨i06, hi06, _, hsz6, _⟩ := info_parts info37
 have hroom6 : l1.length ≤ c1 := HC1.out
 have hC6 : Kd.C k37 _ A1 l1.length l1 := HR1.out
 have hcut6 := cut_to (P := Try.prog) 29 37 .i64 Try.underlying29 hi06 A1 l1.length c1 (ji3) (od_) q6 hroom6
 have hr6 := Kd.C_take (m := ((ji3) : Int).toNat) hC6 (by omega)
 have hy6 : y195.length = ((ji3) : Int).toNat := (by rw [Ny195.out, List.length_take]; omega)
 rw [← Ny195.out] at hr6
 rw [← hy6] at hcut6
 have HR198 := Aside0.mk hr6
 have HC198 := Aside0.mk (show y195.length ≤ c1 from by omega)
 clear hr6 hC6 hroom6 hi06 hsz6
 have KY6 := Aside0.mk hy6
 clear hy6
 replace q6 := eq_true q6
 go_enter Try.func30, Try.ntmps30
 go_wp2
 go_loopg [16] k (fun kq v16 w' => ∃ (x16_1 : Int), v16 = .int .i64 x16_1 ∧ Aside0 (impl_isApart.l0 kq l0 l1 ji3 y195 (y195.length : Int) x16_1 = some r) ∧ Aside0 (kq ≤ k) ∧ Aside0 (Below w.heap.size w w'))
 case atStart => exact ⟨(0), rs_, H', ⟨Nat.le_refl _⟩, ⟨bl0_ HB.out⟩⟩
 case round =>
  clear H'
  try clear c1
  try clear p2
  try clear c3
  try clear c4
  try clear c4b0
  try clear c4b1
  try clear c5
  try clear c5b0
  try clear c5b1
  try clear p6
  try clear q6
  try clear q6
  obtain ⟨x16_1, rfl, HA, HK1, HB⟩ := hrel
  cases gk with
  | zero => exact absurd HA.out (by simp [impl_isApart.l0])
  | succ k1 =>
   have H := HA.out
   clear HA
   simp only [impl_isApart.l0] at H
   by_cases c7 : x16_1 < (y195.length : Int)
   ·rw [if_pos c7] at H
    have c7b0 := decide_eq_true c7
    clear c7
    by_cases c8 : 0 ≤ x16_1
    rotate_left
    ·exact nope_ c8 H
    rw [if_pos c8] at H
    have c8b0 := decide_eq_true c8
    clear c8
    by_cases c9 : x16_1 < (y195.length : Int)
    rotate_left
    ·exact nope_ c9 H
    rw [if_pos c9] at H
    have c9b0 := decide_eq_true c9
    clear c9
    by_cases c10 : 0 ≤ ji3
    rotate_left
    ·exact nope_ c10 H
    rw [if_pos c10] at H
    have c10b0 := decide_eq_true c10
    clear c10
    by_cases c11 : ji3 < (l0.length : Int)
    rotate_left
    ·exact nope_ c11 H
    rw [if_pos c11] at H
    have c11b0 := decide_eq_true c11
    clear c11
    by_cases c12 : x16_1 < ((rd_L2 l0 ji3).length : Int)
    rotate_left
    ·exact nope_ c12 H
    rw [if_pos c12] at H
    have c12b0 := decide_eq_true c12
    clear c12
    by_cases c13 : ji3 < (l1.length : Int)
    rotate_left
    ·exact nope_ c13 H
    rw [if_pos c13] at H
    have c13b0 := decide_eq_true c13
    clear c13
    replace H := Option.bind_eq_some_iff.mp H
    obtain ⟨t204, A140, H⟩ := H
    replace H : (if t204 < (wrap64 ((rd (rd_L2 l0 ji3) x16_1) * (rd (rd_L2 l0 ji3) x16_1))) then (some false) else (impl_isApart.l0 k1 l0 l1 ji3 y195 (y195.length : Int) (wrap64 (x16_1 + 1)))) = some r := H
    have A14 := Aside0.mk A140
    clear A140
    by_cases c15 : t204 < (wrap64 ((rd (rd_L2 l0 ji3) x16_1) * (rd (rd_L2 l0 ji3) x16_1)))
    ·rw [if_pos c15] at H
     have c15b0 := decide_eq_true c15
     clear c15
     obtain rfl := Option.some.inj H
     have p199 : 0 ≤ (x16_1 : Int) := od_
     have q199 : x16_1 < (y195.length : Int) := od_
     obtain ⟨ad199, e199, hx199_0, hx199_1⟩ := at_T37 HR198.out x16_1 p199 q199
     cases e199
     replace hx199_0 := (HB.out.cell (World.block_lt_of_cell? w _ hx199_0)).trans hx199_0
     replace hx199_1 := (HB.out.cell (World.block_lt_of_cell? w _ hx199_1)).trans hx199_1
     replace p199 := eq_true p199
     replace q199 := eq_true q199
     try go_wp2_with (first | ((with_reducible refine gate_dst (N := 7) rfl ?_); refine box_event ?hg (N := 7) ?hd (cs := #[.int .i64 0, .int .i64 0]) (t := 37) ?hr ?_; (case hd => rfl); (case hg => rfl); (case hr => first | (go_simp; done) | (go_simp; rfl)); intro gb200 hg w16 hbox hb; have n0_ := Aside0.mk (below_step (bl0_ HB.out) hb); have n1_ := Aside0.mk (hbox); have n2_ := Aside0.mk ((by rw [hg]; exact (below_size (bl0_ HB.out)) : w.heap.size ≤ gb200)); have n3_ := Aside0.mk ((by rw [hg]; exact (below_size (bl0_ HB.out)) : w.heap.size ≤ gb200)); clear HB; have HB := n0_; have BK200 := n1_; have GW200 := n2_; have GE200 := n3_; clear n0_ n1_ n2_ n3_; clear hb hbox hg; obtain ⟨hcz17_0, hcz17_1, hfz17_0, hfz17_1⟩ := cz2_ BK200.out; have p201 : 0 ≤ (ji3 : Int) := od_; have q201 : ji3 < (l0.length : Int) := od_; obtain ⟨ad201, A201_0, c201_0, e201, hx201_0, hl201_0, hi201_0⟩ := at_L2 HR0.out ji3 p201 q201; cases e201; have hn201_0 : ad201.block ≠ gb200 := Nat.ne_of_lt (Nat.lt_of_lt_of_le (by have := World.block_lt_of_cell? _ _ hx201_0; first | rwa [add_block] at this | exact this) GW200.out); have hn201_1 : ad201.block ≠ gb200 := Nat.ne_of_lt (Nat.lt_of_lt_of_le (by have := World.block_lt_of_cell? _ _ hx201_0; first | rwa [add_block] at this | exact this) GW200.out); replace hx201_0 := (HB.out.cell (World.block_lt_of_cell? w _ hx201_0)).trans hx201_0; have HR201_0 := Aside0.mk hi201_0; have HC201_0 := Aside0.mk hl201_0; clear hi201_0 hl201_0; replace hx201_0 := (cell_far (p := ⟨gb200, 0, none⟩) (ab_ hn201_0) (.int .i64 ((rd_T37 y195 x16_1).f0))).trans hx201_0; replace hx201_0 := (cell_far (p := ⟨gb200, 1, none⟩) (ab_ hn201_1) (.int .i64 ((rd_T37 y195 x16_1).f1))).trans hx201_0; clear hn201_0; clear hn201_1; replace p201 := eq_true p201; replace q201 := eq_true q201; have p202 : 0 ≤ (x16_1 : Int) := od_; have q202 : x16_1 < ((rd_L2 l0 ji3).length : Int) := od_; obtain ⟨ad202, e202, hx202_0⟩ := Kd.at_int HR201_0.out x16_1 p202 q202; cases e202; have hn202_0 : ad202.block ≠ gb200 := Nat.ne_of_lt (Nat.lt_of_lt_of_le (by have := World.block_lt_of_cell? _ _ hx202_0; first | rwa [add_block] at this | exact this) GW200.out); have hn202_1 : ad202.block ≠ gb200 := Nat.ne_of_lt (Nat.lt_of_lt_of_le (by have := World.block_lt_of_cell? _ _ hx202_0; first | rwa [add_block] at this | exact this) GW200.out); replace hx202_0 := (HB.out.cell (World.block_lt_of_cell? w _ hx202_0)).trans hx202_0; replace hx202_0 := (cell_far (p := ⟨gb200, 0, none⟩) (ab_ hn202_0) (.int .i64 ((rd_T37 y195 x16_1).f0))).trans hx202_0; replace hx202_0 := (cell_far (p := ⟨gb200, 1, none⟩) (ab_ hn202_1) (.int .i64 ((rd_T37 y195 x16_1).f1))).trans hx202_0; clear hn202_0; clear hn202_1; replace p202 := eq_true p202; replace q202 := eq_true q202))
     have n0_ : Aside0 (((w16.setCell ⟨gb200, 0, none⟩ (.int .i64 ((rd_T37 y195 x16_1).f0))).setCell ⟨gb200, 1, none⟩ (.int .i64 ((rd_T37 y195 x16_1).f1))).heap[gb200]? = some (.cells #[.int .i64 ((rd_T37 y195 x16_1).f0), .int .i64 ((rd_T37 y195 x16_1).f1)] 37 (0, 0))) := ⟨by (with_reducible repeat (first | refine blk_drewN ?_ _ | refine blk_drew ?_ | refine blk_alloc ?_ _)); refine blk_put (cs := #[.int .i64 ((rd_T37 y195 x16_1).f0), .int .i64 0]) ?_ 1 _ rfl; (with_reducible repeat (first | refine blk_drewN ?_ _ | refine blk_drew ?_ | refine blk_alloc ?_ _)); refine blk_put (cs := #[.int .i64 0, .int .i64 0]) ?_ 0 _ rfl; (with_reducible repeat (first | refine blk_drewN ?_ _ | refine blk_drew ?_ | refine blk_alloc ?_ _)); exact BK200.out⟩
     have n1_ : Aside0 (Below w.heap.size w ((w16.setCell ⟨gb200, 0, none⟩ (.int .i64 ((rd_T37 y195 x16_1).f0))).setCell ⟨gb200, 1, none⟩ (.int .i64 ((rd_T37 y195 x16_1).f1)))) := ⟨bl1_ HB.out GE200.out⟩
     (try clear BK200)
     (try clear HB)
     generalize ((w16.setCell ⟨gb200, 0, none⟩ (.int .i64 ((rd_T37 y195 x16_1).f0))).setCell ⟨gb200, 1, none⟩ (.int .i64 ((rd_T37 y195 x16_1).f1))) = w18 at n0_ n1_ ⊢
     have BK200 := n0_
     have HB := n1_
     clear n0_ n1_
     have n0_ := Aside0.mk (blk_drew BK200.out)
     have n1_ := Aside0.mk (below_drew1 HB.out)
     clear BK200
     clear HB
     have BK200 := n0_
     have HB := n1_
     clear n0_ n1_
     have p203 : 0 ≤ (ji3 : Int) := od_
     have q203 : ji3 < (l1.length : Int) := od_
     obtain ⟨ad203, e203, hx203_0, hx203_1⟩ := at_T37 HR1.out ji3 p203 q203
     have hw203_1 := hx203_1
     have hw203_0 := hx203_0
     obtain rfl : ad199 = ad203 := (by injection e203)
     replace hx203_0 := (HB.out.cell (World.block_lt_of_cell? w _ hx203_0)).trans hx203_0
     replace hx203_1 := (HB.out.cell (World.block_lt_of_cell? w _ hx203_1)).trans hx203_1
     replace p203 := eq_true p203
     replace q203 := eq_true q203
     refine start_ (n := 10) (S := fun w' => w'.cell? ⟨gb200, 0, none⟩ = some (.int .i64 ((rd_T37 y195 x16_1).f0)) ∧ w'.cell? ⟨gb200, 1, none⟩ = some (.int .i64 ((rd_T37 y195 x16_1).f1)) ∧ w'.cell? (ad199.add ((ji3).toNat * 2)) = some (.int .i64 ((rd_T37 l1 ji3).f0)) ∧ w'.cell? ⟨(ad199.add ((ji3).toNat * 2)).block, (ad199.add ((ji3).toNat * 2)).off + 1, none⟩ = some (.int .i64 ((rd_T37 l1 ji3).f1))) (ds := []) (nb_ 10 0) (by kernel_rfl) rfl rfl ⟨(blk_cell BK200.out 0).trans rfl, (blk_cell BK200.out 1).trans rfl, ((HB.out.cell (World.block_lt_of_cell? w _ hw203_0)).trans hw203_0), ((HB.out.cell (World.block_lt_of_cell? w _ hw203_1)).trans hw203_1)⟩ (fun hHeld => ?_); refine with_tabW impl_isApart.tab6 impl_isApart.bits6 (fun HT_ HW_ => ?_)
     generalize w18.drew = w19 at BK200 HB hx203_0 hx203_1 hHeld ⊢
     refine puz_ 1 (some 29) (nb_ 10 2) rfl rfl (any_of HT_.out (by kernel_rfl)) ?_
     refine puz_ 2 (some 30) (nb_ 10 6) rfl rfl (any_of HT_.out (by kernel_rfl)) ?_
     refine puz_ 3 (some 31) (nb_ 10 14) rfl rfl (any_of HT_.out (by kernel_rfl)) ?_
     refine puz_ 6 (some 34) (nb_ 10 78) rfl rfl (any_of HT_.out (by kernel_rfl)) ?_
     refine puz_ 7 (some 35) (nb_ 10 206) rfl rfl (any_of HT_.out (by kernel_rfl)) ?_
     refine puz_ 8 (some 36) (nb_ 10 462) rfl rfl (any_of HT_.out (by kernel_rfl)) ?_
     refine tkz_ 0 (some 28) (nb_ 10 463) rfl rfl (take_ofW HT_.out HW_.out (by kernel_rfl)) hHeld ?_
     refine tkz_ 4 (some 32) (nb_ 10 479) rfl rfl (take_ofW HT_.out HW_.out (by kernel_rfl)) hHeld ?_
     refine one_ (i := 5) (N := some 33) (nb_ 10 511) rfl rfl (one_of HT_.out (by kernel_rfl)) (by decide) (fun K hK => ?_)
     refine goes_ Try.func32 (by kernel_rfl) rfl #[.agg #[.int .i64 ((rd_T37 y195 x16_1).f0), .int .i64 ((rd_T37 y195 x16_1).f1)], .agg #[.int .i64 ((rd_T37 l1 ji3).f0), .int .i64 ((rd_T37 l1 ji3).f1)]] (by rfl) rfl rfl (by (try simp only [List.map_toArray, List.map_cons, List.map_nil]); first | done | (simp only [hji3]; rfl) | rfl | (simp only [List.length_drop, List.length_take]; rfl)) ?_
     with_reducible refine (impl_Spot_square.calls ((rd_T37 y195 x16_1).f0) ((rd_T37 y195 x16_1).f1) ((rd_T37 l1 ji3).f0) ((rd_T37 l1 ji3).f1) t204 _ A14.out).mono ?_
     rintro e w20 ⟨rfl, hb⟩
     refine ⟨_, rfl, ?_⟩
     have n0_ := Aside0.mk (blk_below (g := gb200) (o := .cells #[.int .i64 ((rd_T37 y195 x16_1).f0), .int .i64 ((rd_T37 y195 x16_1).f1)] 37 (0, 0)) (bk_ BK200.out) hb)
     have n1_ := Aside0.mk (below_step (bl1_ HB.out GE200.out) hb)
     clear BK200
     clear HB
     have BK200 := n0_
     have HB := n1_
     clear n0_ n1_
     (try clear hb)
     (try clear hb2)
     (try clear hk)
     (try clear hi)
     refine hK.out _ _ ⟨(blk_cell BK200.out 0).trans rfl, (blk_cell BK200.out 1).trans rfl, ((HB.out.cell (World.block_lt_of_cell? w _ hw203_0)).trans hw203_0), ((HB.out.cell (World.block_lt_of_cell? w _ hw203_1)).trans hw203_1)⟩ (fun hHeld => ?_)
     clear hK K
     refine norm_ (a' := ?_) ?_ ?_
     rotate_left
     ·show Act.put _ (some 33) _ = _
      simp only [Act.put, List.setIfInBounds_toArray, List.set_cons_zero, List.set_cons_succ, i64_w, i32_w]
      rfl
     refine puz_ 9 (some 37) (nb_ 10 1023) rfl rfl (any_of HT_.out (by kernel_rfl)) ?_
     refine done_ (done_of HT_.out (by kernel_rfl)) ?_
     try go_wp2
     go_ret
     exact ⟨by first | rfl | (simp [errW_none, errW_some] <;> rfl) | (simp only [← hji3]; first | rfl | (simp [errW_none, errW_some] <;> rfl)) | (simp [*, errW_none, errW_some] <;> rfl), bl1_ HB.out GE200.out⟩
    ·rw [if_neg c15] at H
     have c15b0 := decide_eq_false c15
     clear c15
     have H' := Aside0.mk H
     clear H
     have p199 : 0 ≤ (x16_1 : Int) := od_
     have q199 : x16_1 < (y195.length : Int) := od_
     obtain ⟨ad199, e199, hx199_0, hx199_1⟩ := at_T37 HR198.out x16_1 p199 q199
     cases e199
     replace hx199_0 := (HB.out.cell (World.block_lt_of_cell? w _ hx199_0)).trans hx199_0
     replace hx199_1 := (HB.out.cell (World.block_lt_of_cell? w _ hx199_1)).trans hx199_1
     replace p199 := eq_true p199
     replace q199 := eq_true q199
     try go_wp2_with (first | ((with_reducible refine gate_dst (N := 7) rfl ?_); refine box_event ?hg (N := 7) ?hd (cs := #[.int .i64 0, .int .i64 0]) (t := 37) ?hr ?_; (case hd => rfl); (case hg => rfl); (case hr => first | (go_simp; done) | (go_simp; rfl)); intro gb200 hg w21 hbox hb; have n0_ := Aside0.mk (below_step (bl0_ HB.out) hb); have n1_ := Aside0.mk (hbox); have n2_ := Aside0.mk ((by rw [hg]; exact (below_size (bl0_ HB.out)) : w.heap.size ≤ gb200)); have n3_ := Aside0.mk ((by rw [hg]; exact (below_size (bl0_ HB.out)) : w.heap.size ≤ gb200)); clear HB; have HB := n0_; have BK200 := n1_; have GW200 := n2_; have GE200 := n3_; clear n0_ n1_ n2_ n3_; clear hb hbox hg; obtain ⟨hcz22_0, hcz22_1, hfz22_0, hfz22_1⟩ := cz2_ BK200.out; have p201 : 0 ≤ (ji3 : Int) := od_; have q201 : ji3 < (l0.length : Int) := od_; obtain ⟨ad201, A201_0, c201_0, e201, hx201_0, hl201_0, hi201_0⟩ := at_L2 HR0.out ji3 p201 q201; cases e201; have hn201_0 : ad201.block ≠ gb200 := Nat.ne_of_lt (Nat.lt_of_lt_of_le (by have := World.block_lt_of_cell? _ _ hx201_0; first | rwa [add_block] at this | exact this) GW200.out); have hn201_1 : ad201.block ≠ gb200 := Nat.ne_of_lt (Nat.lt_of_lt_of_le (by have := World.block_lt_of_cell? _ _ hx201_0; first | rwa [add_block] at this | exact this) GW200.out); replace hx201_0 := (HB.out.cell (World.block_lt_of_cell? w _ hx201_0)).trans hx201_0; have HR201_0 := Aside0.mk hi201_0; have HC201_0 := Aside0.mk hl201_0; clear hi201_0 hl201_0; replace hx201_0 := (cell_far (p := ⟨gb200, 0, none⟩) (ab_ hn201_0) (.int .i64 ((rd_T37 y195 x16_1).f0))).trans hx201_0; replace hx201_0 := (cell_far (p := ⟨gb200, 1, none⟩) (ab_ hn201_1) (.int .i64 ((rd_T37 y195 x16_1).f1))).trans hx201_0; clear hn201_0; clear hn201_1; replace p201 := eq_true p201; replace q201 := eq_true q201; have p202 : 0 ≤ (x16_1 : Int) := od_; have q202 : x16_1 < ((rd_L2 l0 ji3).length : Int) := od_; obtain ⟨ad202, e202, hx202_0⟩ := Kd.at_int HR201_0.out x16_1 p202 q202; cases e202; have hn202_0 : ad202.block ≠ gb200 := Nat.ne_of_lt (Nat.lt_of_lt_of_le (by have := World.block_lt_of_cell? _ _ hx202_0; first | rwa [add_block] at this | exact this) GW200.out); have hn202_1 : ad202.block ≠ gb200 := Nat.ne_of_lt (Nat.lt_of_lt_of_le (by have := World.block_lt_of_cell? _ _ hx202_0; first | rwa [add_block] at this | exact this) GW200.out); replace hx202_0 := (HB.out.cell (World.block_lt_of_cell? w _ hx202_0)).trans hx202_0; replace hx202_0 := (cell_far (p := ⟨gb200, 0, none⟩) (ab_ hn202_0) (.int .i64 ((rd_T37 y195 x16_1).f0))).trans hx202_0; replace hx202_0 := (cell_far (p := ⟨gb200, 1, none⟩) (ab_ hn202_1) (.int .i64 ((rd_T37 y195 x16_1).f1))).trans hx202_0; clear hn202_0; clear hn202_1; replace p202 := eq_true p202; replace q202 := eq_true q202))
     have n0_ : Aside0 (((w21.setCell ⟨gb200, 0, none⟩ (.int .i64 ((rd_T37 y195 x16_1).f0))).setCell ⟨gb200, 1, none⟩ (.int .i64 ((rd_T37 y195 x16_1).f1))).heap[gb200]? = some (.cells #[.int .i64 ((rd_T37 y195 x16_1).f0), .int .i64 ((rd_T37 y195 x16_1).f1)] 37 (0, 0))) := ⟨by (with_reducible repeat (first | refine blk_drewN ?_ _ | refine blk_drew ?_ | refine blk_alloc ?_ _)); refine blk_put (cs := #[.int .i64 ((rd_T37 y195 x16_1).f0), .int .i64 0]) ?_ 1 _ rfl; (with_reducible repeat (first | refine blk_drewN ?_ _ | refine blk_drew ?_ | refine blk_alloc ?_ _)); refine blk_put (cs := #[.int .i64 0, .int .i64 0]) ?_ 0 _ rfl; (with_reducible repeat (first | refine blk_drewN ?_ _ | refine blk_drew ?_ | refine blk_alloc ?_ _)); exact BK200.out⟩
     have n1_ : Aside0 (Below w.heap.size w ((w21.setCell ⟨gb200, 0, none⟩ (.int .i64 ((rd_T37 y195 x16_1).f0))).setCell ⟨gb200, 1, none⟩ (.int .i64 ((rd_T37 y195 x16_1).f1)))) := ⟨bl1_ HB.out GE200.out⟩
     (try clear BK200)
     (try clear HB)
     generalize ((w21.setCell ⟨gb200, 0, none⟩ (.int .i64 ((rd_T37 y195 x16_1).f0))).setCell ⟨gb200, 1, none⟩ (.int .i64 ((rd_T37 y195 x16_1).f1))) = w23 at n0_ n1_ ⊢
     have BK200 := n0_
     have HB := n1_
     clear n0_ n1_
     have n0_ := Aside0.mk (blk_drew BK200.out)
     have n1_ := Aside0.mk (below_drew1 HB.out)
     clear BK200
     clear HB
     have BK200 := n0_
     have HB := n1_
     clear n0_ n1_
     have p203 : 0 ≤ (ji3 : Int) := od_
     have q203 : ji3 < (l1.length : Int) := od_
     obtain ⟨ad203, e203, hx203_0, hx203_1⟩ := at_T37 HR1.out ji3 p203 q203
     have hw203_1 := hx203_1
     have hw203_0 := hx203_0
     obtain rfl : ad199 = ad203 := (by injection e203)
     replace hx203_0 := (HB.out.cell (World.block_lt_of_cell? w _ hx203_0)).trans hx203_0
     replace hx203_1 := (HB.out.cell (World.block_lt_of_cell? w _ hx203_1)).trans hx203_1
     replace p203 := eq_true p203
     replace q203 := eq_true q203
     refine start_ (n := 10) (S := fun w' => w'.cell? ⟨gb200, 0, none⟩ = some (.int .i64 ((rd_T37 y195 x16_1).f0)) ∧ w'.cell? ⟨gb200, 1, none⟩ = some (.int .i64 ((rd_T37 y195 x16_1).f1)) ∧ w'.cell? (ad199.add ((ji3).toNat * 2)) = some (.int .i64 ((rd_T37 l1 ji3).f0)) ∧ w'.cell? ⟨(ad199.add ((ji3).toNat * 2)).block, (ad199.add ((ji3).toNat * 2)).off + 1, none⟩ = some (.int .i64 ((rd_T37 l1 ji3).f1))) (ds := []) (nb_ 10 0) (by kernel_rfl) rfl rfl ⟨(blk_cell BK200.out 0).trans rfl, (blk_cell BK200.out 1).trans rfl, ((HB.out.cell (World.block_lt_of_cell? w _ hw203_0)).trans hw203_0), ((HB.out.cell (World.block_lt_of_cell? w _ hw203_1)).trans hw203_1)⟩ (fun hHeld => ?_); refine with_tabW impl_isApart.tab6 impl_isApart.bits6 (fun HT_ HW_ => ?_)
     generalize w23.drew = w24 at BK200 HB hx203_0 hx203_1 hHeld ⊢
     refine puz_ 1 (some 29) (nb_ 10 2) rfl rfl (any_of HT_.out (by kernel_rfl)) ?_
     refine puz_ 2 (some 30) (nb_ 10 6) rfl rfl (any_of HT_.out (by kernel_rfl)) ?_
     refine puz_ 3 (some 31) (nb_ 10 14) rfl rfl (any_of HT_.out (by kernel_rfl)) ?_
     refine puz_ 6 (some 34) (nb_ 10 78) rfl rfl (any_of HT_.out (by kernel_rfl)) ?_
     refine puz_ 7 (some 35) (nb_ 10 206) rfl rfl (any_of HT_.out (by kernel_rfl)) ?_
     refine puz_ 8 (some 36) (nb_ 10 462) rfl rfl (any_of HT_.out (by kernel_rfl)) ?_
     refine tkz_ 0 (some 28) (nb_ 10 463) rfl rfl (take_ofW HT_.out HW_.out (by kernel_rfl)) hHeld ?_
     refine tkz_ 4 (some 32) (nb_ 10 479) rfl rfl (take_ofW HT_.out HW_.out (by kernel_rfl)) hHeld ?_
     refine one_ (i := 5) (N := some 33) (nb_ 10 511) rfl rfl (one_of HT_.out (by kernel_rfl)) (by decide) (fun K hK => ?_)
     refine goes_ Try.func32 (by kernel_rfl) rfl #[.agg #[.int .i64 ((rd_T37 y195 x16_1).f0), .int .i64 ((rd_T37 y195 x16_1).f1)], .agg #[.int .i64 ((rd_T37 l1 ji3).f0), .int .i64 ((rd_T37 l1 ji3).f1)]] (by rfl) rfl rfl (by (try simp only [List.map_toArray, List.map_cons, List.map_nil]); first | done | (simp only [hji3]; rfl) | rfl | (simp only [List.length_drop, List.length_take]; rfl)) ?_
     with_reducible refine (impl_Spot_square.calls ((rd_T37 y195 x16_1).f0) ((rd_T37 y195 x16_1).f1) ((rd_T37 l1 ji3).f0) ((rd_T37 l1 ji3).f1) t204 _ A14.out).mono ?_
     rintro e w25 ⟨rfl, hb⟩
     refine ⟨_, rfl, ?_⟩
     have n0_ := Aside0.mk (blk_below (g := gb200) (o := .cells #[.int .i64 ((rd_T37 y195 x16_1).f0), .int .i64 ((rd_T37 y195 x16_1).f1)] 37 (0, 0)) (bk_ BK200.out) hb)
     have n1_ := Aside0.mk (below_step (bl1_ HB.out GE200.out) hb)
     clear BK200
     clear HB
     have BK200 := n0_
     have HB := n1_
     clear n0_ n1_
     (try clear hb)
     (try clear hb2)
     (try clear hk)
     (try clear hi)
     refine hK.out _ _ ⟨(blk_cell BK200.out 0).trans rfl, (blk_cell BK200.out 1).trans rfl, ((HB.out.cell (World.block_lt_of_cell? w _ hw203_0)).trans hw203_0), ((HB.out.cell (World.block_lt_of_cell? w _ hw203_1)).trans hw203_1)⟩ (fun hHeld => ?_)
     clear hK K
     refine norm_ (a' := ?_) ?_ ?_
     rotate_left
     ·show Act.put _ (some 33) _ = _
      simp only [Act.put, List.setIfInBounds_toArray, List.set_cons_zero, List.set_cons_succ, i64_w, i32_w]
      rfl
     refine puz_ 9 (some 37) (nb_ 10 1023) rfl rfl (any_of HT_.out (by kernel_rfl)) ?_
     refine done_ (done_of HT_.out (by kernel_rfl)) ?_
     try go_wp2
     go_roundg k1
     case measure => have := HK1.out; omega
     case rel => exact ⟨(wrap64 (x16_1 + 1)), rs_, H', ⟨by have := HK1.out; omega⟩, ⟨bl1_ HB.out GE200.out⟩⟩
   ·rw [if_neg c7] at H
    have c7b0 := decide_eq_false c7
    clear c7
    obtain rfl := Option.some.inj H
    go_wp2
    go_ret
    exact ⟨by first | rfl | (simp [errW_none, errW_some] <;> rfl) | (simp only [← hji3]; first | rfl | (simp [errW_none, errW_some] <;> rfl)) | (simp [*, errW_none, errW_some] <;> rfl), bl0_ HB.out⟩

end Go.Proofs.Ytmckbecegiegaaa.A
