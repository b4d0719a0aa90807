/- For functions of the translation: a Lean function each, and that the call of the Go function comes to its answer. Written by this session's own program (myprint.py, over the kit's printer). -/
import Derived.Test.YtnbhnkpefhdgjaaIx0
import Derived.Test.YtnbhnkpefhdgjaaIx8
import Derived.Test.YtnbhnkpefhdgjaaIx11
--compacted
namespace Go.Proofs.Ytnbhnkpefhdgjaa.I
open Go.RowKit Go.Proofs.YtnbhnkpefhdgjaaW.PrintWords Go.Proofs.YtnbhnkpefhdgjaaW.PrintLast Go.Proofs.YtnbhnkpefhdgjaaW.PrintMore
attribute [local go_sem] max2_int min2_int max_two min_two max_three min_three max_four min_four   -- for this text's walks alone
set_option linter.unusedVariables false
set_option linter.unusedSimpArgs false

/-! ### impl_isApart: function 76 -/
def impl_isApart.l0 : Nat → List (List Int) → List (S68) → Int → List (S68) → Int → Int → Option (Bool)
 | 0, _, _, _, _, _, _ => none
 | k + 1, x0, x1, x5, x14, x15, x16 => if x16 < x15 then (if 0 ≤ x16 then (if x16 < (x14.length : Int) then (if 0 ≤ x5 then (if x5 < (x0.length : Int) then (if x16 < ((rd_L5 x0 x5).length : Int) then (if x5 < (x1.length : Int) then ((impl_Spot_square.f ((rd_T68 x14 x16).f0) ((rd_T68 x14 x16).f1) ((rd_T68 x1 x5).f0) ((rd_T68 x1 x5).f1)).bind fun t373 => (if t373 < (wrap64 ((rd (rd_L5 x0 x5) x16) * (rd (rd_L5 x0 x5) x16))) then (some false) else (impl_isApart.l0 k x0 x1 x5 x14 x15 (wrap64 (x16 + 1))))) else (none)) else (none)) else (none)) else (none)) else (none)) else (none)) else (some true)
def impl_isApart.f (k : Nat) (l0 : List (List Int)) (l1 : List (S68)) : Option (Bool) := if 0 ≤ (wrap64 ((l1.length : Int) - 1)) then (if (wrap64 ((l1.length : Int) - 1)) ≤ (l1.length : Int) then ((some (l1.take ((wrap64 ((l1.length : Int) - 1)) : Int).toNat : List (S68))).bind fun y364 => (impl_isApart.l0 k l0 l1 (wrap64 ((l1.length : Int) - 1)) y364 (y364.length : Int) 0)) else (none)) else (none)
theorem impl_isApart.mono_l : ∀ k, (∀ y0 y1 y2 y3 y4 y5, LeO (impl_isApart.l0 k y0 y1 y2 y3 y4 y5) (impl_isApart.l0 (k + 1) y0 y1 y2 y3 y4 y5))
 | 0 => fun _ _ _ _ _ _ r h => by simp [impl_isApart.l0] at h
 | k + 1 => by
  have ih0 := impl_isApart.mono_l k
  ·intro y0 y1 y2 y3 y4 y5
   unfold impl_isApart.l0
   repeat' first
   | (with_reducible exact ih0 _ _ _ _ _ _)
   | (with_reducible exact LeO.refl _)
   | (with_reducible exact LeO.none _)
   | (with_reducible refine LeO.ite ?_ ?_)
   | (with_reducible refine LeO.bind ?_ (fun _ => ?_))
theorem impl_isApart.mono : ∀ a0 a1 k, LeO (impl_isApart.f k a0 a1) (impl_isApart.f (k + 1) a0 a1) := by
 intro a0 a1 k
 have ih0 := impl_isApart.mono_l k
 unfold impl_isApart.f
 repeat' first
   | (with_reducible exact ih0 _ _ _ _ _ _)
   | (with_reducible exact LeO.refl _)
   | (with_reducible exact LeO.none _)
   | (with_reducible refine LeO.ite ?_ ?_)
   | (with_reducible refine LeO.bind ?_ (fun _ => ?_))
def impl_isApart.T6 : Bool × List (List Nat × List Nat) := (true, [([], []), ([], []), ([], []), ([1, 2], [1, 2]), ([3], [3]), ([0, 4], [0, 4]), ([], []), ([], []), ([6, 7], [6, 7]), ([5, 8], [5, 8])])
def impl_isApart.B6 : List Nat := [0, 0, 0, 6, 14, 31, 0, 0, 192, 511]
theorem impl_isApart.tab6 : rtab .any (opsOf Try.f76 6) = impl_isApart.T6 := by kernel_rfl
theorem impl_isApart.bits6 : waitsOk impl_isApart.T6.2 impl_isApart.B6 = true := by kernel_rfl
set_option maxHeartbeats 8000000 in
set_option maxRecDepth 100000 in
theorem impl_isApart.calls (k : Nat) (A0 : Option Addr) (c0 : Nat) (l0 : List (List Int)) (A1 : Option Addr) (c1 : Nat) (l1 : List (S68)) (r : Bool) (w : World) (hr0 : Kd.C (Kd.slice 2 (Kd.int .i64)) w A0 l0.length l0) (hc0 : l0.length ≤ c0) (hr1 : Kd.C k68 w A1 l1.length l1) (hc1 : l1.length ≤ c1) (h : impl_isApart.f k l0 l1 = some r) :
  Calls Try.prog 76 #[.slice A0 l0.length c0, .slice A1 l1.length c1] w fun e w' => e = .returned (.bool r) ∧ Below w.heap.size w w' := by
 have hu68 := Try.underlying68
 have HR0 := Aside0.mk hr0
 have HC0 := Aside0.mk hc0
 clear hr0 hc0
 have HR1 := Aside0.mk hr1
 have HC1 := Aside0.mk hc1
 clear hr1 hc1
 have HB := Aside0.mk (Below.refl w.heap.size w)
 have H : (if 0 ≤ (wrap64 ((l1.length : Int) - 1)) then (if (wrap64 ((l1.length : Int) - 1)) ≤ (l1.length : Int) then ((some (l1.take ((wrap64 ((l1.length : Int) - 1)) : Int).toNat : List (S68))).bind fun y364 => (impl_isApart.l0 k l0 l1 (wrap64 ((l1.length : Int) - 1)) y364 (y364.length : Int) 0)) else (none)) else (none)) = some r := h
 clear h
 obtain ⟨ji3, hji3⟩ : ∃ j_ : Int, (wrap64 ((l1.length : Int) - 1)) = j_ := ⟨_, rfl⟩
 replace H : (if 0 ≤ (ji3) then (if (ji3) ≤ (l1.length : Int) then ((some (l1.take ((ji3) : Int).toNat : List (S68))).bind fun y364 => (impl_isApart.l0 k l0 l1 ji3 y364 (y364.length : Int) 0)) else (none)) else (none)) = some r := by first | (rw [hji3] at H; exact H) | (simp only [hji3] at H ⊢; exact H)
 have hji3w : (IntKind.i64.wrap ((l1.length : Int) - 1)) = ji3 := (i64_w _).trans hji3
 by_cases c4 : 0 ≤ (ji3)
 rotate_left
 ·exact nope_ c4 H
 rw [if_pos c4] at H
 have c4b0 := eq_true c4
 have c4b1 := decide_eq_true c4
 clear c4
 by_cases c5 : (ji3) ≤ (l1.length : Int)
 rotate_left
 ·exact nope_ c5 H
 rw [if_pos c5] at H
 have c5b0 := eq_true c5
 have c5b1 := decide_eq_true c5
 clear c5
 obtain ⟨y364, hy364⟩ : ∃ y_ : List (S68), y_ = (l1.take ((ji3) : Int).toNat) := ⟨_, rfl⟩
 replace H : (impl_isApart.l0 k l0 l1 ji3 y364 (y364.length : Int) 0) = some r := yh_ H hy364
 have Ny364 := Aside0.mk hy364
 clear hy364
 have H' := Aside0.mk H
 clear H
 have q6 : ((ji3) : Int) ≤ ((l1.length : Int) : Int) := od_
 obtain ⟨i06, hi06, _, hsz6, _⟩ := info_parts info68
 have hroom6 : l1.length ≤ c1 := HC1.out
 have hC6 : Kd.C k68 _ A1 l1.length l1 := HR1.out
 have hcut6 := cut_to (P := Try.prog) 49 68 .i64 Try.underlying49 hi06 A1 l1.length c1 (ji3) (od_) q6 hroom6
 have hr6 := Kd.C_take (m := ((ji3) : Int).toNat) hC6 (by omega)
 have hy6 : y364.length = ((ji3) : Int).toNat := (by rw [Ny364.out, List.length_take]; omega)
 rw [← Ny364.out] at hr6
 rw [← hy6] at hcut6
 have HR367 := Aside0.mk hr6
 have HC367 := Aside0.mk (show y364.length ≤ c1 from by omega)
 clear hr6 hC6 hroom6 hi06 hsz6
 have KY6 := Aside0.mk hy6
 clear hy6
 replace q6 := eq_true q6
 go_enter Try.func76, Try.ntmps76
 go_wp2
 go_loopg [16] k (fun kq v16 w' => ∃ (x16_1 : Int), v16 = .int .i64 x16_1 ∧ Aside0 (impl_isApart.l0 kq l0 l1 ji3 y364 (y364.length : Int) x16_1 = some r) ∧ Aside0 (kq ≤ k) ∧ Aside0 (Below w.heap.size w w'))
 case atStart => exact ⟨(0), rs_, H', ⟨Nat.le_refl _⟩, ⟨bl0_ HB.out⟩⟩
 case round =>
  clear H'
  try clear c1
  try clear p2
  try clear c4
  try clear c4b0
  try clear c4b1
  try clear c5
  try clear c5b0
  try clear c5b1
  try clear p6
  try clear q6
  try clear q6
  obtain ⟨x16_1, rfl, HA, HK1, HB⟩ := hrel
  cases gk with
  | zero => exact absurd HA.out (by simp [impl_isApart.l0])
  | succ k1 =>
   have H := HA.out
   clear HA
   simp only [impl_isApart.l0] at H
   by_cases c7 : x16_1 < (y364.length : Int)
   ·rw [if_pos c7] at H
    have c7b0 := decide_eq_true c7
    clear c7
    by_cases c8 : 0 ≤ x16_1
    rotate_left
    ·exact nope_ c8 H
    rw [if_pos c8] at H
    have c8b0 := decide_eq_true c8
    clear c8
    by_cases c9 : x16_1 < (y364.length : Int)
    rotate_left
    ·exact nope_ c9 H
    rw [if_pos c9] at H
    have c9b0 := decide_eq_true c9
    clear c9
    by_cases c10 : 0 ≤ ji3
    rotate_left
    ·exact nope_ c10 H
    rw [if_pos c10] at H
    have c10b0 := decide_eq_true c10
    clear c10
    by_cases c11 : ji3 < (l0.length : Int)
    rotate_left
    ·exact nope_ c11 H
    rw [if_pos c11] at H
    have c11b0 := decide_eq_true c11
    clear c11
    by_cases c12 : x16_1 < ((rd_L5 l0 ji3).length : Int)
    rotate_left
    ·exact nope_ c12 H
    rw [if_pos c12] at H
    have c12b0 := decide_eq_true c12
    clear c12
    by_cases c13 : ji3 < (l1.length : Int)
    rotate_left
    ·exact nope_ c13 H
    rw [if_pos c13] at H
    have c13b0 := decide_eq_true c13
    clear c13
    replace H := Option.bind_eq_some_iff.mp H
    obtain ⟨t373, A140, H⟩ := H
    replace H : (if t373 < (wrap64 ((rd (rd_L5 l0 ji3) x16_1) * (rd (rd_L5 l0 ji3) x16_1))) then (some false) else (impl_isApart.l0 k1 l0 l1 ji3 y364 (y364.length : Int) (wrap64 (x16_1 + 1)))) = some r := H
    have A14 := Aside0.mk A140
    clear A140
    by_cases c15 : t373 < (wrap64 ((rd (rd_L5 l0 ji3) x16_1) * (rd (rd_L5 l0 ji3) x16_1)))
    ·rw [if_pos c15] at H
     have c15b0 := decide_eq_true c15
     clear c15
     obtain rfl := Option.some.inj H
     have p368 : 0 ≤ (x16_1 : Int) := od_
     have q368 : x16_1 < (y364.length : Int) := od_
     obtain ⟨ad368, e368, hx368_0, hx368_1⟩ := at_T68 HR367.out x16_1 p368 q368
     cases e368
     replace hx368_0 := (HB.out.cell (World.block_lt_of_cell? w _ hx368_0)).trans hx368_0
     replace hx368_1 := (HB.out.cell (World.block_lt_of_cell? w _ hx368_1)).trans hx368_1
     replace p368 := eq_true p368
     replace q368 := eq_true q368
     try go_wp2_with (first | ((with_reducible refine gate_dst (N := 7) rfl ?_); refine box_event ?hg (N := 7) ?hd (cs := #[.int .i64 0, .int .i64 0]) (t := 68) ?hr ?_; (case hd => rfl); (case hg => rfl); (case hr => first | (go_simp; done) | (go_simp; rfl)); intro gb369 hg w16 hbox hb; have n0_ := Aside0.mk (below_step (bl0_ HB.out) hb); have n1_ := Aside0.mk (hbox); have n2_ := Aside0.mk ((by rw [hg]; exact (below_size (bl0_ HB.out)) : w.heap.size ≤ gb369)); have n3_ := Aside0.mk ((by rw [hg]; exact (below_size (bl0_ HB.out)) : w.heap.size ≤ gb369)); clear HB; have HB := n0_; have BK369 := n1_; have GW369 := n2_; have GE369 := n3_; clear n0_ n1_ n2_ n3_; clear hb hbox hg; have hcz17_0 : w16.cell? ⟨gb369, 0, none⟩ = some (.int .i64 0) := (blk_cell BK369.out 0).trans rfl; have hcz17_1 : w16.cell? ⟨gb369, 1, none⟩ = some (.int .i64 0) := (blk_cell BK369.out 1).trans rfl; have hfz17_0 := blk_frozen BK369.out 0; have hfz17_1 := blk_frozen BK369.out 1; have p370 : 0 ≤ (ji3 : Int) := od_; have q370 : ji3 < (l0.length : Int) := od_; obtain ⟨ad370, A370_0, c370_0, e370, hx370_0, hl370_0, hi370_0⟩ := at_L5 HR0.out ji3 p370 q370; cases e370; have hn370_0 : ad370.block ≠ gb369 := Nat.ne_of_lt (Nat.lt_of_lt_of_le (by have := World.block_lt_of_cell? _ _ hx370_0; first | rwa [add_block] at this | exact this) GW369.out); have hn370_1 : ad370.block ≠ gb369 := Nat.ne_of_lt (Nat.lt_of_lt_of_le (by have := World.block_lt_of_cell? _ _ hx370_0; first | rwa [add_block] at this | exact this) GW369.out); replace hx370_0 := (HB.out.cell (World.block_lt_of_cell? w _ hx370_0)).trans hx370_0; have HR370_0 := Aside0.mk hi370_0; have HC370_0 := Aside0.mk hl370_0; clear hi370_0 hl370_0; replace hx370_0 := (cell_far (p := ⟨gb369, 0, none⟩) (ab_ hn370_0) (.int .i64 ((rd_T68 y364 x16_1).f0))).trans hx370_0; replace hx370_0 := (cell_far (p := ⟨gb369, 1, none⟩) (ab_ hn370_1) (.int .i64 ((rd_T68 y364 x16_1).f1))).trans hx370_0; clear hn370_0; clear hn370_1; replace p370 := eq_true p370; replace q370 := eq_true q370; have p371 : 0 ≤ (x16_1 : Int) := od_; have q371 : x16_1 < ((rd_L5 l0 ji3).length : Int) := od_; obtain ⟨ad371, e371, hx371_0⟩ := Kd.at_int HR370_0.out x16_1 p371 q371; cases e371; have hn371_0 : ad371.block ≠ gb369 := Nat.ne_of_lt (Nat.lt_of_lt_of_le (by have := World.block_lt_of_cell? _ _ hx371_0; first | rwa [add_block] at this | exact this) GW369.out); have hn371_1 : ad371.block ≠ gb369 := Nat.ne_of_lt (Nat.lt_of_lt_of_le (by have := World.block_lt_of_cell? _ _ hx371_0; first | rwa [add_block] at this | exact this) GW369.out); replace hx371_0 := (HB.out.cell (World.block_lt_of_cell? w _ hx371_0)).trans hx371_0; replace hx371_0 := (cell_far (p := ⟨gb369, 0, none⟩) (ab_ hn371_0) (.int .i64 ((rd_T68 y364 x16_1).f0))).trans hx371_0; replace hx371_0 := (cell_far (p := ⟨gb369, 1, none⟩) (ab_ hn371_1) (.int .i64 ((rd_T68 y364 x16_1).f1))).trans hx371_0; clear hn371_0; clear hn371_1; replace p371 := eq_true p371; replace q371 := eq_true q371))
     have n0_ : Aside0 (((w16.setCell ⟨gb369, 0, none⟩ (.int .i64 ((rd_T68 y364 x16_1).f0))).setCell ⟨gb369, 1, none⟩ (.int .i64 ((rd_T68 y364 x16_1).f1))).heap[gb369]? = some (.cells #[.int .i64 ((rd_T68 y364 x16_1).f0), .int .i64 ((rd_T68 y364 x16_1).f1)] 68 (0, 0))) := ⟨by (with_reducible repeat (first | refine blk_drewN ?_ _ | refine blk_drew ?_ | refine blk_alloc ?_ _)); refine blk_put (cs := #[.int .i64 ((rd_T68 y364 x16_1).f0), .int .i64 0]) ?_ 1 _ rfl; (with_reducible repeat (first | refine blk_drewN ?_ _ | refine blk_drew ?_ | refine blk_alloc ?_ _)); refine blk_put (cs := #[.int .i64 0, .int .i64 0]) ?_ 0 _ rfl; (with_reducible repeat (first | refine blk_drewN ?_ _ | refine blk_drew ?_ | refine blk_alloc ?_ _)); exact BK369.out⟩
     have n1_ : Aside0 (Below w.heap.size w ((w16.setCell ⟨gb369, 0, none⟩ (.int .i64 ((rd_T68 y364 x16_1).f0))).setCell ⟨gb369, 1, none⟩ (.int .i64 ((rd_T68 y364 x16_1).f1)))) := ⟨bl1_ HB.out GE369.out⟩
     (try clear BK369)
     (try clear HB)
     generalize ((w16.setCell ⟨gb369, 0, none⟩ (.int .i64 ((rd_T68 y364 x16_1).f0))).setCell ⟨gb369, 1, none⟩ (.int .i64 ((rd_T68 y364 x16_1).f1))) = w18 at n0_ n1_ ⊢
     have BK369 := n0_
     have HB := n1_
     clear n0_ n1_
     have n0_ := Aside0.mk (blk_drew BK369.out)
     have n1_ := Aside0.mk (below_drew1 HB.out)
     clear BK369
     clear HB
     have BK369 := n0_
     have HB := n1_
     clear n0_ n1_
     have p372 : 0 ≤ (ji3 : Int) := od_
     have q372 : ji3 < (l1.length : Int) := od_
     obtain ⟨ad372, e372, hx372_0, hx372_1⟩ := at_T68 HR1.out ji3 p372 q372
     have hw372_1 := hx372_1
     have hw372_0 := hx372_0
     obtain rfl : ad368 = ad372 := (by injection e372)
     replace hx372_0 := (HB.out.cell (World.block_lt_of_cell? w _ hx372_0)).trans hx372_0
     replace hx372_1 := (HB.out.cell (World.block_lt_of_cell? w _ hx372_1)).trans hx372_1
     replace p372 := eq_true p372
     replace q372 := eq_true q372
     refine start_ (n := 10) (S := fun w' => w'.cell? ⟨gb369, 0, none⟩ = some (.int .i64 ((rd_T68 y364 x16_1).f0)) ∧ w'.cell? ⟨gb369, 1, none⟩ = some (.int .i64 ((rd_T68 y364 x16_1).f1)) ∧ w'.cell? (ad368.add ((ji3).toNat * 2)) = some (.int .i64 ((rd_T68 l1 ji3).f0)) ∧ w'.cell? ⟨(ad368.add ((ji3).toNat * 2)).block, (ad368.add ((ji3).toNat * 2)).off + 1, none⟩ = some (.int .i64 ((rd_T68 l1 ji3).f1))) (ds := []) #[false,false,false,false,false,false,false,false,false,false] (by kernel_rfl) rfl rfl ⟨(blk_cell BK369.out 0).trans rfl, (blk_cell BK369.out 1).trans rfl, ((HB.out.cell (World.block_lt_of_cell? w _ hw372_0)).trans hw372_0), ((HB.out.cell (World.block_lt_of_cell? w _ hw372_1)).trans hw372_1)⟩ (fun hHeld => ?_); refine with_tabW impl_isApart.tab6 impl_isApart.bits6 (fun HT_ HW_ => ?_)
     generalize w18.drew = w19 at BK369 HB hx372_0 hx372_1 hHeld ⊢
     refine puz_ 1 (some 29) #[false,true,false,false,false,false,false,false,false,false] rfl rfl (any_of HT_.out (by kernel_rfl)) ?_
     refine puz_ 2 (some 30) #[false,true,true,false,false,false,false,false,false,false] rfl rfl (any_of HT_.out (by kernel_rfl)) ?_
     refine puz_ 3 (some 31) #[false,true,true,true,false,false,false,false,false,false] rfl rfl (any_of HT_.out (by kernel_rfl)) ?_
     refine puz_ 6 (some 34) #[false,true,true,true,false,false,true,false,false,false] rfl rfl (any_of HT_.out (by kernel_rfl)) ?_
     refine puz_ 7 (some 35) #[false,true,true,true,false,false,true,true,false,false] rfl rfl (any_of HT_.out (by kernel_rfl)) ?_
     refine puz_ 8 (some 36) #[false,true,true,true,false,false,true,true,true,false] rfl rfl (any_of HT_.out (by kernel_rfl)) ?_
     refine tkz_ 0 (some 28) #[true,true,true,true,false,false,true,true,true,false] rfl rfl (take_ofW HT_.out HW_.out (by kernel_rfl)) hHeld ?_
     refine tkz_ 4 (some 32) #[true,true,true,true,true,false,true,true,true,false] rfl rfl (take_ofW HT_.out HW_.out (by kernel_rfl)) hHeld ?_
     refine one_ (i := 5) (N := some 33) #[true,true,true,true,true,true,true,true,true,false] rfl rfl (one_of HT_.out (by kernel_rfl)) (by decide) (fun K hK => ?_)
     refine goes_ Try.func82 (by kernel_rfl) rfl #[.agg #[.int .i64 ((rd_T68 y364 x16_1).f0), .int .i64 ((rd_T68 y364 x16_1).f1)], .agg #[.int .i64 ((rd_T68 l1 ji3).f0), .int .i64 ((rd_T68 l1 ji3).f1)]] (by rfl) rfl rfl (by (try simp only [List.map_toArray, List.map_cons, List.map_nil]); first | done | (simp only [hji3]; rfl) | rfl | (simp only [List.length_drop, List.length_take]; rfl)) ?_
     with_reducible refine (impl_Spot_square.calls ((rd_T68 y364 x16_1).f0) ((rd_T68 y364 x16_1).f1) ((rd_T68 l1 ji3).f0) ((rd_T68 l1 ji3).f1) t373 _ A14.out).mono ?_
     rintro e w20 ⟨rfl, hb⟩
     refine ⟨_, rfl, ?_⟩
     have n0_ := Aside0.mk (blk_below (g := gb369) (o := .cells #[.int .i64 ((rd_T68 y364 x16_1).f0), .int .i64 ((rd_T68 y364 x16_1).f1)] 68 (0, 0)) (bk_ BK369.out) hb)
     have n1_ := Aside0.mk (below_step (bl1_ HB.out GE369.out) hb)
     clear BK369
     clear HB
     have BK369 := n0_
     have HB := n1_
     clear n0_ n1_
     (try clear hb)
     (try clear hb2)
     (try clear hk)
     (try clear hi)
     refine hK.out _ _ ⟨(blk_cell BK369.out 0).trans rfl, (blk_cell BK369.out 1).trans rfl, ((HB.out.cell (World.block_lt_of_cell? w _ hw372_0)).trans hw372_0), ((HB.out.cell (World.block_lt_of_cell? w _ hw372_1)).trans hw372_1)⟩ (fun hHeld => ?_)
     clear hK K
     refine norm_ (a' := ?_) ?_ ?_
     rotate_left
     ·show Act.put _ (some 33) _ = _
      simp only [Act.put, List.setIfInBounds_toArray, List.set_cons_zero, List.set_cons_succ, i64_w, i32_w]
      rfl
     refine puz_ 9 (some 37) #[true,true,true,true,true,true,true,true,true,true] rfl rfl (any_of HT_.out (by kernel_rfl)) ?_
     refine done_ (done_of HT_.out (by kernel_rfl)) ?_
     try go_wp2
     go_ret
     exact ⟨by first | rfl | (simp [errW_none, errW_some] <;> rfl) | (simp only [← hji3]; first | rfl | (simp [errW_none, errW_some] <;> rfl)) | (simp [*, errW_none, errW_some] <;> rfl), bl1_ HB.out GE369.out⟩
    ·rw [if_neg c15] at H
     have c15b0 := decide_eq_false c15
     clear c15
     have H' := Aside0.mk H
     clear H
     have p368 : 0 ≤ (x16_1 : Int) := od_
     have q368 : x16_1 < (y364.length : Int) := od_
     obtain ⟨ad368, e368, hx368_0, hx368_1⟩ := at_T68 HR367.out x16_1 p368 q368
     cases e368
     replace hx368_0 := (HB.out.cell (World.block_lt_of_cell? w _ hx368_0)).trans hx368_0
     replace hx368_1 := (HB.out.cell (World.block_lt_of_cell? w _ hx368_1)).trans hx368_1
     replace p368 := eq_true p368
     replace q368 := eq_true q368
     try go_wp2_with (first | ((with_reducible refine gate_dst (N := 7) rfl ?_); refine box_event ?hg (N := 7) ?hd (cs := #[.int .i64 0, .int .i64 0]) (t := 68) ?hr ?_; (case hd => rfl); (case hg => rfl); (case hr => first | (go_simp; done) | (go_simp; rfl)); intro gb369 hg w21 hbox hb; have n0_ := Aside0.mk (below_step (bl0_ HB.out) hb); have n1_ := Aside0.mk (hbox); have n2_ := Aside0.mk ((by rw [hg]; exact (below_size (bl0_ HB.out)) : w.heap.size ≤ gb369)); have n3_ := Aside0.mk ((by rw [hg]; exact (below_size (bl0_ HB.out)) : w.heap.size ≤ gb369)); clear HB; have HB := n0_; have BK369 := n1_; have GW369 := n2_; have GE369 := n3_; clear n0_ n1_ n2_ n3_; clear hb hbox hg; have hcz22_0 : w21.cell? ⟨gb369, 0, none⟩ = some (.int .i64 0) := (blk_cell BK369.out 0).trans rfl; have hcz22_1 : w21.cell? ⟨gb369, 1, none⟩ = some (.int .i64 0) := (blk_cell BK369.out 1).trans rfl; have hfz22_0 := blk_frozen BK369.out 0; have hfz22_1 := blk_frozen BK369.out 1; have p370 : 0 ≤ (ji3 : Int) := od_; have q370 : ji3 < (l0.length : Int) := od_; obtain ⟨ad370, A370_0, c370_0, e370, hx370_0, hl370_0, hi370_0⟩ := at_L5 HR0.out ji3 p370 q370; cases e370; have hn370_0 : ad370.block ≠ gb369 := Nat.ne_of_lt (Nat.lt_of_lt_of_le (by have := World.block_lt_of_cell? _ _ hx370_0; first | rwa [add_block] at this | exact this) GW369.out); have hn370_1 : ad370.block ≠ gb369 := Nat.ne_of_lt (Nat.lt_of_lt_of_le (by have := World.block_lt_of_cell? _ _ hx370_0; first | rwa [add_block] at this | exact this) GW369.out); replace hx370_0 := (HB.out.cell (World.block_lt_of_cell? w _ hx370_0)).trans hx370_0; have HR370_0 := Aside0.mk hi370_0; have HC370_0 := Aside0.mk hl370_0; clear hi370_0 hl370_0; replace hx370_0 := (cell_far (p := ⟨gb369, 0, none⟩) (ab_ hn370_0) (.int .i64 ((rd_T68 y364 x16_1).f0))).trans hx370_0; replace hx370_0 := (cell_far (p := ⟨gb369, 1, none⟩) (ab_ hn370_1) (.int .i64 ((rd_T68 y364 x16_1).f1))).trans hx370_0; clear hn370_0; clear hn370_1; replace p370 := eq_true p370; replace q370 := eq_true q370; have p371 : 0 ≤ (x16_1 : Int) := od_; have q371 : x16_1 < ((rd_L5 l0 ji3).length : Int) := od_; obtain ⟨ad371, e371, hx371_0⟩ := Kd.at_int HR370_0.out x16_1 p371 q371; cases e371; have hn371_0 : ad371.block ≠ gb369 := Nat.ne_of_lt (Nat.lt_of_lt_of_le (by have := World.block_lt_of_cell? _ _ hx371_0; first | rwa [add_block] at this | exact this) GW369.out); have hn371_1 : ad371.block ≠ gb369 := Nat.ne_of_lt (Nat.lt_of_lt_of_le (by have := World.block_lt_of_cell? _ _ hx371_0; first | rwa [add_block] at this | exact this) GW369.out); replace hx371_0 := (HB.out.cell (World.block_lt_of_cell? w _ hx371_0)).trans hx371_0; replace hx371_0 := (cell_far (p := ⟨gb369, 0, none⟩) (ab_ hn371_0) (.int .i64 ((rd_T68 y364 x16_1).f0))).trans hx371_0; replace hx371_0 := (cell_far (p := ⟨gb369, 1, none⟩) (ab_ hn371_1) (.int .i64 ((rd_T68 y364 x16_1).f1))).trans hx371_0; clear hn371_0; clear hn371_1; replace p371 := eq_true p371; replace q371 := eq_true q371))
     have n0_ : Aside0 (((w21.setCell ⟨gb369, 0, none⟩ (.int .i64 ((rd_T68 y364 x16_1).f0))).setCell ⟨gb369, 1, none⟩ (.int .i64 ((rd_T68 y364 x16_1).f1))).heap[gb369]? = some (.cells #[.int .i64 ((rd_T68 y364 x16_1).f0), .int .i64 ((rd_T68 y364 x16_1).f1)] 68 (0, 0))) := ⟨by (with_reducible repeat (first | refine blk_drewN ?_ _ | refine blk_drew ?_ | refine blk_alloc ?_ _)); refine blk_put (cs := #[.int .i64 ((rd_T68 y364 x16_1).f0), .int .i64 0]) ?_ 1 _ rfl; (with_reducible repeat (first | refine blk_drewN ?_ _ | refine blk_drew ?_ | refine blk_alloc ?_ _)); refine blk_put (cs := #[.int .i64 0, .int .i64 0]) ?_ 0 _ rfl; (with_reducible repeat (first | refine blk_drewN ?_ _ | refine blk_drew ?_ | refine blk_alloc ?_ _)); exact BK369.out⟩
     have n1_ : Aside0 (Below w.heap.size w ((w21.setCell ⟨gb369, 0, none⟩ (.int .i64 ((rd_T68 y364 x16_1).f0))).setCell ⟨gb369, 1, none⟩ (.int .i64 ((rd_T68 y364 x16_1).f1)))) := ⟨bl1_ HB.out GE369.out⟩
     (try clear BK369)
     (try clear HB)
     generalize ((w21.setCell ⟨gb369, 0, none⟩ (.int .i64 ((rd_T68 y364 x16_1).f0))).setCell ⟨gb369, 1, none⟩ (.int .i64 ((rd_T68 y364 x16_1).f1))) = w23 at n0_ n1_ ⊢
     have BK369 := n0_
     have HB := n1_
     clear n0_ n1_
     have n0_ := Aside0.mk (blk_drew BK369.out)
     have n1_ := Aside0.mk (below_drew1 HB.out)
     clear BK369
     clear HB
     have BK369 := n0_
     have HB := n1_
     clear n0_ n1_
     have p372 : 0 ≤ (ji3 : Int) := od_
     have q372 : ji3 < (l1.length : Int) := od_
     obtain ⟨ad372, e372, hx372_0, hx372_1⟩ := at_T68 HR1.out ji3 p372 q372
     have hw372_1 := hx372_1
     have hw372_0 := hx372_0
     obtain rfl : ad368 = ad372 := (by injection e372)
     replace hx372_0 := (HB.out.cell (World.block_lt_of_cell? w _ hx372_0)).trans hx372_0
     replace hx372_1 := (HB.out.cell (World.block_lt_of_cell? w _ hx372_1)).trans hx372_1
     replace p372 := eq_true p372
     replace q372 := eq_true q372
     refine start_ (n := 10) (S := fun w' => w'.cell? ⟨gb369, 0, none⟩ = some (.int .i64 ((rd_T68 y364 x16_1).f0)) ∧ w'.cell? ⟨gb369, 1, none⟩ = some (.int .i64 ((rd_T68 y364 x16_1).f1)) ∧ w'.cell? (ad368.add ((ji3).toNat * 2)) = some (.int .i64 ((rd_T68 l1 ji3).f0)) ∧ w'.cell? ⟨(ad368.add ((ji3).toNat * 2)).block, (ad368.add ((ji3).toNat * 2)).off + 1, none⟩ = some (.int .i64 ((rd_T68 l1 ji3).f1))) (ds := []) #[false,false,false,false,false,false,false,false,false,false] (by kernel_rfl) rfl rfl ⟨(blk_cell BK369.out 0).trans rfl, (blk_cell BK369.out 1).trans rfl, ((HB.out.cell (World.block_lt_of_cell? w _ hw372_0)).trans hw372_0), ((HB.out.cell (World.block_lt_of_cell? w _ hw372_1)).trans hw372_1)⟩ (fun hHeld => ?_); refine with_tabW impl_isApart.tab6 impl_isApart.bits6 (fun HT_ HW_ => ?_)
     generalize w23.drew = w24 at BK369 HB hx372_0 hx372_1 hHeld ⊢
     refine puz_ 1 (some 29) #[false,true,false,false,false,false,false,false,false,false] rfl rfl (any_of HT_.out (by kernel_rfl)) ?_
     refine puz_ 2 (some 30) #[false,true,true,false,false,false,false,false,false,false] rfl rfl (any_of HT_.out (by kernel_rfl)) ?_
     refine puz_ 3 (some 31) #[false,true,true,true,false,false,false,false,false,false] rfl rfl (any_of HT_.out (by kernel_rfl)) ?_
     refine puz_ 6 (some 34) #[false,true,true,true,false,false,true,false,false,false] rfl rfl (any_of HT_.out (by kernel_rfl)) ?_
     refine puz_ 7 (some 35) #[false,true,true,true,false,false,true,true,false,false] rfl rfl (any_of HT_.out (by kernel_rfl)) ?_
     refine puz_ 8 (some 36) #[false,true,true,true,false,false,true,true,true,false] rfl rfl (any_of HT_.out (by kernel_rfl)) ?_
     refine tkz_ 0 (some 28) #[true,true,true,true,false,false,true,true,true,false] rfl rfl (take_ofW HT_.out HW_.out (by kernel_rfl)) hHeld ?_
     refine tkz_ 4 (some 32) #[true,true,true,true,true,false,true,true,true,false] rfl rfl (take_ofW HT_.out HW_.out (by kernel_rfl)) hHeld ?_
     refine one_ (i := 5) (N := some 33) #[true,true,true,true,true,true,true,true,true,false] rfl rfl (one_of HT_.out (by kernel_rfl)) (by decide) (fun K hK => ?_)
     refine goes_ Try.func82 (by kernel_rfl) rfl #[.agg #[.int .i64 ((rd_T68 y364 x16_1).f0), .int .i64 ((rd_T68 y364 x16_1).f1)], .agg #[.int .i64 ((rd_T68 l1 ji3).f0), .int .i64 ((rd_T68 l1 ji3).f1)]] (by rfl) rfl rfl (by (try simp only [List.map_toArray, List.map_cons, List.map_nil]); first | done | (simp only [hji3]; rfl) | rfl | (simp only [List.length_drop, List.length_take]; rfl)) ?_
     with_reducible refine (impl_Spot_square.calls ((rd_T68 y364 x16_1).f0) ((rd_T68 y364 x16_1).f1) ((rd_T68 l1 ji3).f0) ((rd_T68 l1 ji3).f1) t373 _ A14.out).mono ?_
     rintro e w25 ⟨rfl, hb⟩
     refine ⟨_, rfl, ?_⟩
     have n0_ := Aside0.mk (blk_below (g := gb369) (o := .cells #[.int .i64 ((rd_T68 y364 x16_1).f0), .int .i64 ((rd_T68 y364 x16_1).f1)] 68 (0, 0)) (bk_ BK369.out) hb)
     have n1_ := Aside0.mk (below_step (bl1_ HB.out GE369.out) hb)
     clear BK369
     clear HB
     have BK369 := n0_
     have HB := n1_
     clear n0_ n1_
     (try clear hb)
     (try clear hb2)
     (try clear hk)
     (try clear hi)
     refine hK.out _ _ ⟨(blk_cell BK369.out 0).trans rfl, (blk_cell BK369.out 1).trans rfl, ((HB.out.cell (World.block_lt_of_cell? w _ hw372_0)).trans hw372_0), ((HB.out.cell (World.block_lt_of_cell? w _ hw372_1)).trans hw372_1)⟩ (fun hHeld => ?_)
     clear hK K
     refine norm_ (a' := ?_) ?_ ?_
     rotate_left
     ·show Act.put _ (some 33) _ = _
      simp only [Act.put, List.setIfInBounds_toArray, List.set_cons_zero, List.set_cons_succ, i64_w, i32_w]
      rfl
     refine puz_ 9 (some 37) #[true,true,true,true,true,true,true,true,true,true] rfl rfl (any_of HT_.out (by kernel_rfl)) ?_
     refine done_ (done_of HT_.out (by kernel_rfl)) ?_
     try go_wp2
     go_roundg k1
     case measure => have := HK1.out; omega
     case rel => exact ⟨(wrap64 (x16_1 + 1)), rs_, H', ⟨by have := HK1.out; omega⟩, ⟨bl1_ HB.out GE369.out⟩⟩
   ·rw [if_neg c7] at H
    have c7b0 := decide_eq_false c7
    clear c7
    obtain rfl := Option.some.inj H
    go_wp2
    go_ret
    exact ⟨by first | rfl | (simp [errW_none, errW_some] <;> rfl) | (simp only [← hji3]; first | rfl | (simp [errW_none, errW_some] <;> rfl)) | (simp [*, errW_none, errW_some] <;> rfl), bl0_ HB.out⟩

/-! ### impl_ValidPacking: function 39 -/
mutual
def impl_ValidPacking.j0 : Nat → Int → List (S68) → Bool → Int → List (S71) → Option (Bool)
 | 0, _, _, _, _, _ => none
 | k + 1, x1, x2, x17, x375000, x375001 => if x17 = true then (some false) else ((impl_Tree_leafDistances.f k x375000 x375001).bind fun t377 => (if (x2.length : Int) = (t377.length : Int) then (impl_ValidPacking.l0 k x1 x2 t377 x2 (x2.length : Int) 0) else (some false)))
def impl_ValidPacking.l0 : Nat → Int → List (S68) → List (List Int) → List (S68) → Int → Int → Option (Bool)
 | 0, _, _, _, _, _, _ => none
 | k + 1, x1, x2, x7, x25, x26, x27 => if x27 < x26 then (if 0 ≤ x27 then (if x27 < (x25.length : Int) then ((impl_within.f ((rd_T68 x25 x27).f0) 0 x1).bind fun t382 => (if t382 = true then ((impl_within.f ((rd_T68 x25 x27).f1) 0 x1).bind fun t383 => (if t383 = true then (if 0 ≤ (wrap64 (x27 + 1)) then (if (wrap64 (x27 + 1)) ≤ (x2.length : Int) then ((impl_isApart.f k x7 (x2.take ((wrap64 (x27 + 1)) : Int).toNat)).bind fun t388 => (if t388 = true then (impl_ValidPacking.l0 k x1 x2 x7 x25 x26 (wrap64 (x27 + 1))) else (some false))) else (none)) else (none)) else (some false))) else (some false))) else (none)) else (none)) else (some true)
end
def impl_ValidPacking.f (k : Nat) (a0_0 : Int) (l0_1 : List (S71)) (a1 : Int) (l2 : List (S68)) : Option (Bool) := (impl_ValidTree.f k a0_0 l0_1).bind fun t375 => (if t375 = true then ((impl_isGridSide.f a1).bind fun t376 => (impl_ValidPacking.j0 k a1 l2 (!t376) a0_0 l0_1)) else (impl_ValidPacking.j0 k a1 l2 true a0_0 l0_1))
theorem impl_ValidPacking.mono_l : ∀ k, (∀ y0 y1 y2 y3 y4, LeO (impl_ValidPacking.j0 k y0 y1 y2 y3 y4) (impl_ValidPacking.j0 (k + 1) y0 y1 y2 y3 y4)) ∧ (∀ y0 y1 y2 y3 y4 y5, LeO (impl_ValidPacking.l0 k y0 y1 y2 y3 y4 y5) (impl_ValidPacking.l0 (k + 1) y0 y1 y2 y3 y4 y5))
 | 0 => ⟨fun _ _ _ _ _ r h => by simp [impl_ValidPacking.j0] at h, fun _ _ _ _ _ _ r h => by simp [impl_ValidPacking.l0] at h⟩
 | k + 1 => by
  obtain ⟨ih0, ih1⟩ := impl_ValidPacking.mono_l k
  refine ⟨?_, ?_⟩
  ·intro y0 y1 y2 y3 y4
   unfold impl_ValidPacking.j0
   repeat' first
   | (with_reducible exact ih0 _ _ _ _ _)
   | (with_reducible exact ih1 _ _ _ _ _ _)
   | (with_reducible exact impl_Tree_leafDistances.mono _ _ _)
   | (with_reducible exact impl_ValidTree.mono _ _ _)
   | (with_reducible exact impl_isApart.mono _ _ _)
   | (with_reducible exact LeO.refl _)
   | (with_reducible exact LeO.none _)
   | (with_reducible refine LeO.ite ?_ ?_)
   | (with_reducible refine LeO.bind ?_ (fun _ => ?_))
   | exact impl_Tree_leafDistances.mono _ _ _
   | exact impl_ValidTree.mono _ _ _
   | exact impl_isApart.mono _ _ _
   | exact LeO.none _
   | refine LeO.ite ?_ ?_
   | refine LeO.bind ?_ (fun _ => ?_)
  ·intro y0 y1 y2 y3 y4 y5
   unfold impl_ValidPacking.l0
   repeat' first
   | (with_reducible exact ih0 _ _ _ _ _)
   | (with_reducible exact ih1 _ _ _ _ _ _)
   | (with_reducible exact impl_Tree_leafDistances.mono _ _ _)
   | (with_reducible exact impl_ValidTree.mono _ _ _)
   | (with_reducible exact impl_isApart.mono _ _ _)
   | (with_reducible exact LeO.refl _)
   | (with_reducible exact LeO.none _)
   | (with_reducible refine LeO.ite ?_ ?_)
   | (with_reducible refine LeO.bind ?_ (fun _ => ?_))
   | exact impl_Tree_leafDistances.mono _ _ _
   | exact impl_ValidTree.mono _ _ _
   | exact impl_isApart.mono _ _ _
   | exact LeO.none _
   | refine LeO.ite ?_ ?_
   | refine LeO.bind ?_ (fun _ => ?_)
theorem impl_ValidPacking.mono : ∀ a0 a1 a2 a3 k, LeO (impl_ValidPacking.f k a0 a1 a2 a3) (impl_ValidPacking.f (k + 1) a0 a1 a2 a3) := by
 intro a0 a1 a2 a3 k
 obtain ⟨ih0, ih1⟩ := impl_ValidPacking.mono_l k
 unfold impl_ValidPacking.f
 repeat' first
   | (with_reducible exact ih0 _ _ _ _ _)
   | (with_reducible exact ih1 _ _ _ _ _ _)
   | (with_reducible exact impl_Tree_leafDistances.mono _ _ _)
   | (with_reducible exact impl_ValidTree.mono _ _ _)
   | (with_reducible exact impl_isApart.mono _ _ _)
   | (with_reducible exact LeO.refl _)
   | (with_reducible exact LeO.none _)
   | (with_reducible refine LeO.ite ?_ ?_)
   | (with_reducible refine LeO.bind ?_ (fun _ => ?_))
   | exact impl_Tree_leafDistances.mono _ _ _
   | exact impl_ValidTree.mono _ _ _
   | exact impl_isApart.mono _ _ _
   | exact LeO.none _
   | refine LeO.ite ?_ ?_
   | refine LeO.bind ?_ (fun _ => ?_)
set_option maxHeartbeats 8000000 in
set_option maxRecDepth 100000 in
theorem impl_ValidPacking.calls (k : Nat) (a0_0 : Int) (A0_1 : Option Addr) (c0_1 : Nat) (l0_1 : List (S71)) (a1 : Int) (A2 : Option Addr) (c2 : Nat) (l2 : List (S68)) (r : Bool) (w : World) (hr0_1 : Kd.C k71 w A0_1 l0_1.length l0_1) (hc0_1 : l0_1.length ≤ c0_1) (hr2 : Kd.C k68 w A2 l2.length l2) (hc2 : l2.length ≤ c2) (h : impl_ValidPacking.f k a0_0 l0_1 a1 l2 = some r) :
  Calls Try.prog 39 #[.agg #[.int .i64 a0_0, .slice A0_1 l0_1.length c0_1], .int .i64 a1, .slice A2 l2.length c2] w fun e w' => e = .returned (.bool r) ∧ Below w.heap.size w w' := by
 have hu29 := Try.underlying29
 have hu68 := Try.underlying68
 have HR0_1 := Aside0.mk hr0_1
 have HC0_1 := Aside0.mk hc0_1
 clear hr0_1 hc0_1
 have HR2 := Aside0.mk hr2
 have HC2 := Aside0.mk hc2
 clear hr2 hc2
 have HB := Aside0.mk (Below.refl w.heap.size w)
 have H : ((impl_ValidTree.f k a0_0 l0_1).bind fun t375 => (if t375 = true then ((impl_isGridSide.f a1).bind fun t376 => (impl_ValidPacking.j0 k a1 l2 (!t376) a0_0 l0_1)) else (impl_ValidPacking.j0 k a1 l2 true a0_0 l0_1))) = some r := h
 clear h
 have HC4 := Aside0.mk H
 clear H
 go_enter Try.func39, Try.ntmps39
 go_upto_region 1 with (first | ((with_reducible refine gate_dst (N := 3) rfl ?_); refine box_event ?hg (N := 3) ?hd (cs := #[.int .i64 a0_0, .slice A0_1 l0_1.length c0_1]) (t := 29) ?hr ?_; (case hd => rfl); (case hg => rfl); (case hr => first | (go_simp; done) | (go_simp; rfl)); intro gb374 hg w5 hbox hb; have n0_ := Aside0.mk (below_step (bl0_ HB.out) hb); have n1_ := Aside0.mk (hbox); have n2_ := Aside0.mk ((by rw [hg]; exact (below_size (bl0_ HB.out)) : w.heap.size ≤ gb374)); have n3_ := Aside0.mk ((by rw [hg]; exact (below_size (bl0_ HB.out)) : w.heap.size ≤ gb374)); clear HB; have HB := n0_; have BK374 := n1_; have GW374 := n2_; have GE374 := n3_; clear n0_ n1_ n2_ n3_; clear hb hbox hg))
 (try simp only [Act.put, List.setIfInBounds_toArray, List.set_cons_zero, List.set_cons_succ])
 go_cut [17] (fun v17 wc => ∃ (kq : Nat) (x17_3 : Bool), v17 = .bool x17_3 ∧ Aside0 (impl_ValidPacking.j0 kq a1 l2 x17_3 a0_0 l0_1 = some r) ∧ Aside0 (kq ≤ k) ∧ Aside0 (wc.heap[gb374]? = some (.cells #[.int .i64 a0_0, (.slice A0_1 l0_1.length c0_1)] 29 (0, 0))) ∧ Aside0 (Below w.heap.size w wc))
 case first =>
  have H := HC4.out
  clear HC4
  replace H := Option.bind_eq_some_iff.mp H
  obtain ⟨t375, A60, H⟩ := H
  replace H : (if t375 = true then ((impl_isGridSide.f a1).bind fun t376 => (impl_ValidPacking.j0 k a1 l2 (!t376) a0_0 l0_1)) else (impl_ValidPacking.j0 k a1 l2 true a0_0 l0_1)) = some r := H
  have A6 := Aside0.mk A60
  clear A60
  by_cases c7 : t375 = true
  ·subst c7
   have H1 : ((impl_isGridSide.f a1).bind fun t376 => (impl_ValidPacking.j0 k a1 l2 (!t376) a0_0 l0_1)) = some r := by rw [if_pos rfl] at H; exact H
   clear H
   have H := H1
   clear H1
   replace H := Option.bind_eq_some_iff.mp H
   obtain ⟨t376, A80, H⟩ := H
   replace H : (impl_ValidPacking.j0 k a1 l2 (!t376) a0_0 l0_1) = some r := H
   have A8 := Aside0.mk A80
   clear A80
   have H' := Aside0.mk H
   clear H
   have hcz9_0 : w5.cell? ⟨gb374, 0, none⟩ = some (.int .i64 a0_0) := (blk_cell BK374.out 0).trans rfl
   have hcz9_1 : w5.cell? ⟨gb374, 1, none⟩ = some (.slice A0_1 l0_1.length c0_1) := (blk_cell BK374.out 1).trans rfl
   have hfz9_0 := blk_frozen BK374.out 0
   have hfz9_1 := blk_frozen BK374.out 1
   go_wp2_with (first | ((with_reducible refine gate_callee (f := 20) rfl ?_); refine goesL_ (some 11) rfl rfl Try.func20 (by kernel_rfl) rfl #[.agg #[.int .i64 a0_0, .slice A0_1 l0_1.length c0_1]] rfl mp_ ?_; (with_reducible refine (impl_ValidTree.calls k a0_0 _ _ l0_1 true _ ?side1 ?side2 A6.out).mono ?_); (case side1 => exact ca_ (Kd.C_below HR0_1.out HB.out)); (case side2 => exact HC0_1.out); rintro e w10 ⟨rfl, hb⟩; refine ⟨_, rfl, ?_⟩; have n0_ := Aside0.mk (blk_below (g := gb374) (o := .cells #[.int .i64 a0_0, .slice A0_1 l0_1.length c0_1] 29 (0, 0)) (bk_ BK374.out) hb); have n1_ := Aside0.mk (below_step (bl1_ HB.out GE374.out) hb); clear BK374; clear HB; have BK374 := n0_; have HB := n1_; clear n0_ n1_; (try clear hb); (try clear hb2); (try clear hk); (try clear hi)) | (go_at_call 75; (with_reducible refine (impl_isGridSide.calls a1 t376 _ A8.out).mono ?_); rintro e w' ⟨rfl, ⟨nd, rfl⟩⟩))
   go_meet
   case rel => exact ⟨_, (!t376), rs_, H', ⟨by first | omega | exact Nat.le_refl _⟩, ⟨bk_ BK374.out⟩, ⟨bl1_ HB.out GE374.out⟩⟩
  ·replace c7 := Bool.eq_false_iff.mpr c7
   subst c7
   have H1 : (impl_ValidPacking.j0 k a1 l2 true a0_0 l0_1) = some r := by rw [if_neg (show ¬ (false = true) by decide)] at H; exact H
   clear H
   have H := H1
   clear H1
   have H' := Aside0.mk H
   clear H
   have hcz11_0 : w5.cell? ⟨gb374, 0, none⟩ = some (.int .i64 a0_0) := (blk_cell BK374.out 0).trans rfl
   have hcz11_1 : w5.cell? ⟨gb374, 1, none⟩ = some (.slice A0_1 l0_1.length c0_1) := (blk_cell BK374.out 1).trans rfl
   have hfz11_0 := blk_frozen BK374.out 0
   have hfz11_1 := blk_frozen BK374.out 1
   go_wp2_with (first | ((with_reducible refine gate_callee (f := 20) rfl ?_); refine goesL_ (some 11) rfl rfl Try.func20 (by kernel_rfl) rfl #[.agg #[.int .i64 a0_0, .slice A0_1 l0_1.length c0_1]] rfl mp_ ?_; (with_reducible refine (impl_ValidTree.calls k a0_0 _ _ l0_1 false _ ?side1 ?side2 A6.out).mono ?_); (case side1 => exact ca_ (Kd.C_below HR0_1.out HB.out)); (case side2 => exact HC0_1.out); rintro e w12 ⟨rfl, hb⟩; refine ⟨_, rfl, ?_⟩; have n0_ := Aside0.mk (blk_below (g := gb374) (o := .cells #[.int .i64 a0_0, .slice A0_1 l0_1.length c0_1] 29 (0, 0)) (bk_ BK374.out) hb); have n1_ := Aside0.mk (below_step (bl1_ HB.out GE374.out) hb); clear BK374; clear HB; have BK374 := n0_; have HB := n1_; clear n0_ n1_; (try clear hb); (try clear hb2); (try clear hk); (try clear hi)))
   go_meet
   case rel => exact ⟨_, (true), rs_, H', ⟨by first | omega | exact Nat.le_refl _⟩, ⟨bk_ BK374.out⟩, ⟨bl1_ HB.out GE374.out⟩⟩
 case rest =>
  clear HC4
  try clear c2
  try clear p2
  try clear c3
  try clear c7
  try clear hcz11_0
  try clear hcz11_1
  try clear hcz9_0
  try clear hcz9_1
  try clear hfz11_0
  try clear hfz11_1
  try clear hfz9_0
  try clear hfz9_1
  obtain ⟨kq, x17_3, rfl, HA, HJ3, BK374, HB⟩ := hcut
  cases kq with
  | zero => exact absurd HA.out (by simp [impl_ValidPacking.j0])
  | succ kj3 =>
   have H := HA.out
   clear HA
   simp only [impl_ValidPacking.j0] at H
   by_cases c13 : x17_3 = true
   ·subst c13
    have H1 : (some false) = some r := by rw [if_pos rfl] at H; exact H
    clear H
    have H := H1
    clear H1
    obtain rfl := Option.some.inj H
    go_wp2
    go_ret
    exact ⟨re_, bl1_ HB.out GE374.out⟩
   ·replace c13 := Bool.eq_false_iff.mpr c13
    subst c13
    have H1 : ((impl_Tree_leafDistances.f kj3 a0_0 l0_1).bind fun t377 => (if (l2.length : Int) = (t377.length : Int) then (impl_ValidPacking.l0 kj3 a1 l2 t377 l2 (l2.length : Int) 0) else (some false))) = some r := by rw [if_neg (show ¬ (false = true) by decide)] at H; exact H
    clear H
    have H := H1
    clear H1
    replace H := Option.bind_eq_some_iff.mp H
    obtain ⟨t377, A140, H⟩ := H
    replace H : (if (l2.length : Int) = (t377.length : Int) then (impl_ValidPacking.l0 kj3 a1 l2 t377 l2 (l2.length : Int) 0) else (some false)) = some r := H
    have A14 := Aside0.mk A140
    clear A140
    by_cases c15 : (l2.length : Int) = (t377.length : Int)
    ·rw [if_pos c15] at H
     have c15b0 : ((l2.length : Int) == (t377.length : Int)) = true := beq_iff_eq.mpr c15
     have c15b1 : ((l2.length : Int) != (t377.length : Int)) = false := bne_eq_false_iff_eq.mpr c15
     have c15b2 : (l2.length == t377.length) = true := by first | simpa using c15 | (simp at c15 ⊢; omega)
     clear c15
     have H' := Aside0.mk H
     clear H
     have hcz16_0 : wc.cell? ⟨gb374, 0, none⟩ = some (.int .i64 a0_0) := (blk_cell BK374.out 0).trans rfl
     have hcz16_1 : wc.cell? ⟨gb374, 1, none⟩ = some (.slice A0_1 l0_1.length c0_1) := (blk_cell BK374.out 1).trans rfl
     have hfz16_0 := blk_frozen BK374.out 0
     have hfz16_1 := blk_frozen BK374.out 1
     go_wp2_with (first | ((with_reducible refine gate_callee (f := 71) rfl ?_); refine goesL_ (some 19) rfl rfl Try.func71 (by kernel_rfl) rfl #[.agg #[.int .i64 a0_0, .slice A0_1 l0_1.length c0_1]] rfl mp_ ?_; (with_reducible refine (impl_Tree_leafDistances.calls kj3 a0_0 _ _ l0_1 t377 _ ?side1 ?side2 A14.out).mono ?_); (case side1 => exact ca_ (Kd.C_below HR0_1.out HB.out)); (case side2 => exact HC0_1.out); rintro e w17 ⟨v378, rfl, ho0, hb⟩; refine ⟨_, rfl, ?_⟩; have n0_ := Aside0.mk (Kd.S_lower ho0 (below_size (bl1_ HB.out GE374.out))); have n1_ := Aside0.mk (blk_below (g := gb374) (o := .cells #[.int .i64 a0_0, .slice A0_1 l0_1.length c0_1] 29 (0, 0)) (bk_ BK374.out) hb); have n2_ := Aside0.mk (below_step (bl1_ HB.out GE374.out) hb); clear BK374; clear HB; have HO379 := n0_; have BK374 := n1_; have HB := n2_; clear n0_ n1_ n2_; (try clear hb); (try clear hb2); (try clear hk); (try clear hi); (try clear ho0); obtain ⟨Ao18, co18, eo18⟩ := Kd.S_slice HO379.out; subst eo18))
     go_loopg [27] kj3 (fun kq v27 w' => ∃ (x27_2 : Int), v27 = .int .i64 x27_2 ∧ Aside0 (impl_ValidPacking.l0 kq a1 l2 t377 l2 (l2.length : Int) x27_2 = some r) ∧ Aside0 (kq ≤ kj3) ∧ Aside0 (Kd.S (Kd.slice 2 (Kd.int .i64)) 36 w' w.heap.size (fun _ => True) (.slice Ao18 t377.length co18) t377) ∧ Aside0 (w'.heap[gb374]? = some (.cells #[.int .i64 a0_0, (.slice A0_1 l0_1.length c0_1)] 29 (0, 0))) ∧ Aside0 (Below w.heap.size w w'))
     case atStart => exact ⟨(0), rs_, H', ⟨Nat.le_refl _⟩, ⟨by (with_reducible repeat (first | apply Kd.S_alloc | apply Kd.S_drewN | apply Kd.S_drew)); exact HO379.out⟩, ⟨bk_ BK374.out⟩, ⟨bl1_ HB.out GE374.out⟩⟩
     case round =>
      clear H'
      try clear c1
      try clear c2
      try clear p2
      try clear c3
      try clear c7
      try clear c13
      try clear c15
      try clear c15b0
      try clear c15b1
      try clear c15b2
      try clear hcz11_0
      try clear hcz11_1
      try clear hcz16_0
      try clear hcz16_1
      try clear hcz9_0
      try clear hcz9_1
      try clear hfz11_0
      try clear hfz11_1
      try clear hfz16_0
      try clear hfz16_1
      try clear hfz9_0
      try clear hfz9_1
      try clear p2
      obtain ⟨x27_2, rfl, HA, HK2, HO_7, BK374, HB⟩ := hrel
      cases gk with
      | zero => exact absurd HA.out (by simp [impl_ValidPacking.l0])
      | succ k2 =>
       have H := HA.out
       clear HA
       simp only [impl_ValidPacking.l0] at H
       by_cases c19 : x27_2 < (l2.length : Int)
       ·rw [if_pos c19] at H
        have c19b0 := decide_eq_true c19
        clear c19
        by_cases c20 : 0 ≤ x27_2
        rotate_left
        ·exact nope_ c20 H
        rw [if_pos c20] at H
        have c20b0 := decide_eq_true c20
        clear c20
        by_cases c21 : x27_2 < (l2.length : Int)
        rotate_left
        ·exact nope_ c21 H
        rw [if_pos c21] at H
        have c21b0 := decide_eq_true c21
        clear c21
        replace H := Option.bind_eq_some_iff.mp H
        obtain ⟨t382, A220, H⟩ := H
        replace H : (if t382 = true then ((impl_within.f ((rd_T68 l2 x27_2).f1) 0 a1).bind fun t383 => (if t383 = true then (if 0 ≤ (wrap64 (x27_2 + 1)) then (if (wrap64 (x27_2 + 1)) ≤ (l2.length : Int) then ((impl_isApart.f k2 t377 (l2.take ((wrap64 (x27_2 + 1)) : Int).toNat)).bind fun t388 => (if t388 = true then (impl_ValidPacking.l0 k2 a1 l2 t377 l2 (l2.length : Int) (wrap64 (x27_2 + 1))) else (some false))) else (none)) else (none)) else (some false))) else (some false)) = some r := H
        have A22 := Aside0.mk A220
        clear A220
        by_cases c23 : t382 = true
        ·subst c23
         have H1 : ((impl_within.f ((rd_T68 l2 x27_2).f1) 0 a1).bind fun t383 => (if t383 = true then (if 0 ≤ (wrap64 (x27_2 + 1)) then (if (wrap64 (x27_2 + 1)) ≤ (l2.length : Int) then ((impl_isApart.f k2 t377 (l2.take ((wrap64 (x27_2 + 1)) : Int).toNat)).bind fun t388 => (if t388 = true then (impl_ValidPacking.l0 k2 a1 l2 t377 l2 (l2.length : Int) (wrap64 (x27_2 + 1))) else (some false))) else (none)) else (none)) else (some false))) = some r := by rw [if_pos rfl] at H; exact H
         clear H
         have H := H1
         clear H1
         replace H := Option.bind_eq_some_iff.mp H
         obtain ⟨t383, A240, H⟩ := H
         replace H : (if t383 = true then (if 0 ≤ (wrap64 (x27_2 + 1)) then (if (wrap64 (x27_2 + 1)) ≤ (l2.length : Int) then ((impl_isApart.f k2 t377 (l2.take ((wrap64 (x27_2 + 1)) : Int).toNat)).bind fun t388 => (if t388 = true then (impl_ValidPacking.l0 k2 a1 l2 t377 l2 (l2.length : Int) (wrap64 (x27_2 + 1))) else (some false))) else (none)) else (none)) else (some false)) = some r := H
         have A24 := Aside0.mk A240
         clear A240
         by_cases c25 : t383 = true
         ·subst c25
          have H1 : (if 0 ≤ (wrap64 (x27_2 + 1)) then (if (wrap64 (x27_2 + 1)) ≤ (l2.length : Int) then ((impl_isApart.f k2 t377 (l2.take ((wrap64 (x27_2 + 1)) : Int).toNat)).bind fun t388 => (if t388 = true then (impl_ValidPacking.l0 k2 a1 l2 t377 l2 (l2.length : Int) (wrap64 (x27_2 + 1))) else (some false))) else (none)) else (none)) = some r := by rw [if_pos rfl] at H; exact H
          clear H
          have H := H1
          clear H1
          obtain ⟨ji26, hji26⟩ : ∃ j_ : Int, (wrap64 (x27_2 + 1)) = j_ := ⟨_, rfl⟩
          replace H : (if 0 ≤ (ji26) then (if (ji26) ≤ (l2.length : Int) then ((impl_isApart.f k2 t377 (l2.take ((ji26) : Int).toNat)).bind fun t388 => (if t388 = true then (impl_ValidPacking.l0 k2 a1 l2 t377 l2 (l2.length : Int) ji26) else (some false))) else (none)) else (none)) = some r := by first | (rw [hji26] at H; exact H) | (simp only [hji26] at H ⊢; exact H)
          (try rw [hji26] at A22)
          (try rw [hji26] at A24)
          have hji26w : (IntKind.i64.wrap (x27_2 + 1)) = ji26 := (i64_w _).trans hji26
          by_cases c27 : 0 ≤ (ji26)
          rotate_left
          ·exact nope_ c27 H
          rw [if_pos c27] at H
          have c27b0 := eq_true c27
          have c27b1 := decide_eq_true c27
          clear c27
          by_cases c28 : (ji26) ≤ (l2.length : Int)
          rotate_left
          ·exact nope_ c28 H
          rw [if_pos c28] at H
          have c28b0 := eq_true c28
          have c28b1 := decide_eq_true c28
          clear c28
          obtain ⟨y384, hy384⟩ : ∃ y_ : List (S68), y_ = (l2.take ((ji26) : Int).toNat) := ⟨_, rfl⟩
          replace H : ((impl_isApart.f k2 t377 y384).bind fun t388 => (if t388 = true then (impl_ValidPacking.l0 k2 a1 l2 t377 l2 (l2.length : Int) ji26) else (some false))) = some r := yh_ H hy384
          have Ny384 := Aside0.mk hy384
          clear hy384
          replace H := Option.bind_eq_some_iff.mp H
          obtain ⟨t388, A290, H⟩ := H
          replace H : (if t388 = true then (impl_ValidPacking.l0 k2 a1 l2 t377 l2 (l2.length : Int) ji26) else (some false)) = some r := H
          have A29 := Aside0.mk A290
          clear A290
          by_cases c30 : t388 = true
          ·subst c30
           have H1 : (impl_ValidPacking.l0 k2 a1 l2 t377 l2 (l2.length : Int) ji26) = some r := by rw [if_pos rfl] at H; exact H
           clear H
           have H := H1
           clear H1
           have H' := Aside0.mk H
           clear H
           have p380 : 0 ≤ (x27_2 : Int) := od_
           have q380 : x27_2 < (l2.length : Int) := od_
           obtain ⟨ad380, e380, hx380_0, hx380_1⟩ := at_T68 HR2.out x27_2 p380 q380
           cases e380
           replace hx380_0 := (HB.out.cell (World.block_lt_of_cell? w _ hx380_0)).trans hx380_0
           replace hx380_1 := (HB.out.cell (World.block_lt_of_cell? w _ hx380_1)).trans hx380_1
           replace p380 := eq_true p380
           replace q380 := eq_true q380
           go_wp2_with (first | ((with_reducible refine gate_dst (N := 9) rfl ?_); refine box_event ?hg (N := 9) ?hd (cs := #[.int .i64 0, .int .i64 0]) (t := 68) ?hr ?_; (case hd => rfl); (case hg => rfl); (case hr => first | (go_simp; done) | (go_simp; rfl)); intro gb381 hg w31 hbox hb; have n0_ := Aside0.mk (Kd.S_below (by (with_reducible repeat (first | apply Kd.S_alloc | apply Kd.S_drewN | apply Kd.S_drew)); exact HO_7.out) hb); have n1_ := Aside0.mk (blk_below (g := gb374) (o := .cells #[.int .i64 a0_0, .slice A0_1 l0_1.length c0_1] 29 (0, 0)) (bk_ BK374.out) hb); have n2_ := Aside0.mk (below_step (bl1_ HB.out GE374.out) hb); have n3_ := Aside0.mk (hbox); have n4_ := Aside0.mk ((by rw [hg]; exact (below_size (bl1_ HB.out GE374.out)) : w.heap.size ≤ gb381)); have n5_ := Aside0.mk ((by rw [hg]; exact (below_size (bl1_ HB.out GE374.out)) : w.heap.size ≤ gb381)); have n6_ := Aside0.mk ((by rw [hg]; exact Nat.ne_of_lt (blk_lt (bk_ BK374.out)) : gb374 ≠ gb381)); have n7_ := Aside0.mk ((by rw [hg]; exact Nat.ne_of_gt (blk_lt (bk_ BK374.out)) : gb381 ≠ gb374)); clear HO_7; clear BK374; clear HB; have HO_7 := n0_; have BK374 := n1_; have HB := n2_; have BK381 := n3_; have GW381 := n4_; have GE381 := n5_; have NB374_381 := n6_; have NB381_374 := n7_; clear n0_ n1_ n2_ n3_ n4_ n5_ n6_ n7_; clear hb hbox hg; have hnb32 := NB381_374.out; have hnc32 := NB374_381.out; have hcz33_0 : w31.cell? ⟨gb381, 0, none⟩ = some (.int .i64 0) := (blk_cell BK381.out 0).trans rfl; have hcz33_1 : w31.cell? ⟨gb381, 1, none⟩ = some (.int .i64 0) := (blk_cell BK381.out 1).trans rfl; have hfz33_0 := blk_frozen BK381.out 0; have hfz33_1 := blk_frozen BK381.out 1) | ((with_reducible refine gate_store (t := 68) (p := 9) rfl ?_); refine store_event (t := 68) (p := 9) (v := ?vo_w34) (w1 := ((w31.setCell ⟨gb381, 0, none⟩ (.int .i64 ((rd_T68 l2 x27_2).f0))).setCell ⟨gb381, 1, none⟩ (.int .i64 ((rd_T68 l2 x27_2).f1)))) ?hg ?ho ?hn ?hr ?_; (case ho => rfl); (case hg => rfl); (case hn => rfl); (case hr => first | (go_simp; done) | (go_simp; rfl)); intro w34 hw; have n0_ : Aside0 (Kd.S (Kd.slice 2 (Kd.int .i64)) 36 w34 w.heap.size (fun _ => True) (.slice Ao18 t377.length co18) t377) := ⟨(by rw [hw]; exact (by (with_reducible repeat (first | apply Kd.S_alloc | apply Kd.S_drewN | apply Kd.S_drew)); exact Kd.S_mono (Kd.S_far (p := ⟨gb381, 1, none⟩) (Kd.S_far (p := ⟨gb381, 0, none⟩) (Kd.S_types HO_7.out BK381.out (by decide)) (fun _ hk => hk.2) (.int .i64 ((rd_T68 l2 x27_2).f0))) (fun _ hk => hk.2) (.int .i64 ((rd_T68 l2 x27_2).f1))) (fun _ hk => trivial)))⟩; have n1_ : Aside0 (w34.heap[gb374]? = some (.cells #[.int .i64 a0_0, .slice A0_1 l0_1.length c0_1] 29 (0, 0))) := ⟨(by rw [hw]; exact (by (with_reducible repeat (first | refine blk_drewN ?_ _ | refine blk_drew ?_ | refine blk_alloc ?_ _)); refine blk_far ?_ NB374_381.out _; (with_reducible repeat (first | refine blk_drewN ?_ _ | refine blk_drew ?_ | refine blk_alloc ?_ _)); refine blk_far ?_ NB374_381.out _; (with_reducible repeat (first | refine blk_drewN ?_ _ | refine blk_drew ?_ | refine blk_alloc ?_ _)); exact BK374.out))⟩; have n2_ : Aside0 (w34.heap[gb381]? = some (.cells #[.int .i64 ((rd_T68 l2 x27_2).f0), .int .i64 ((rd_T68 l2 x27_2).f1)] 68 (0, 0))) := ⟨(by rw [hw]; exact (by (with_reducible repeat (first | refine blk_drewN ?_ _ | refine blk_drew ?_ | refine blk_alloc ?_ _)); refine blk_put (cs := #[.int .i64 ((rd_T68 l2 x27_2).f0), .int .i64 0]) ?_ 1 _ rfl; (with_reducible repeat (first | refine blk_drewN ?_ _ | refine blk_drew ?_ | refine blk_alloc ?_ _)); refine blk_put (cs := #[.int .i64 0, .int .i64 0]) ?_ 0 _ rfl; (with_reducible repeat (first | refine blk_drewN ?_ _ | refine blk_drew ?_ | refine blk_alloc ?_ _)); exact BK381.out))⟩; have n3_ : Aside0 (Below w.heap.size w w34) := ⟨(by rw [hw]; exact (bl2_ HB.out GE374.out GE381.out))⟩; clear hw; clear HO_7; clear BK374; clear BK381; clear HB; have HO_7 := n0_; have BK374 := n1_; have BK381 := n2_; have HB := n3_; clear n0_ n1_ n2_ n3_; have hcz35_0 : w34.cell? ⟨gb381, 0, none⟩ = some (.int .i64 ((rd_T68 l2 x27_2).f0)) := (blk_cell BK381.out 0).trans rfl; have hcz35_1 : w34.cell? ⟨gb381, 1, none⟩ = some (.int .i64 ((rd_T68 l2 x27_2).f1)) := (blk_cell BK381.out 1).trans rfl; have hfz35_0 := blk_frozen BK381.out 0; have hfz35_1 := blk_frozen BK381.out 1) | ((with_reducible refine gate_callee (f := 60) rfl ?_); refine goesL_ (some 35) rfl rfl Try.func60 (by kernel_rfl) rfl #[.int .i64 ((rd_T68 l2 x27_2).f0), .int .i64 0, .int .i64 a1] rfl mp_ ?_; (with_reducible refine (impl_within.calls ((rd_T68 l2 x27_2).f0) 0 a1 true _ A22.out).mono ?_); rintro e w' ⟨rfl, ⟨nd, rfl⟩⟩; refine ⟨_, rfl, ?_⟩) | (go_at_call 60; (with_reducible refine (impl_within.calls ((rd_T68 l2 x27_2).f1) 0 a1 true _ A24.out).mono ?_); rintro e w' ⟨rfl, ⟨nd, rfl⟩⟩; have q36 : ((ji26) : Int) ≤ ((l2.length : Int) : Int) := od_; obtain ⟨i036, hi036, _, hsz36, _⟩ := info_parts info68; have hroom36 : l2.length ≤ c2 := HC2.out; have hC36 : Kd.C k68 _ (some ad380) l2.length l2 := HR2.out; have hcut36 := cut_to (P := Try.prog) 49 68 .i64 Try.underlying49 hi036 (some ad380) l2.length c2 (ji26) (od_) q36 hroom36; have hr36 := Kd.C_take (m := ((ji26) : Int).toNat) hC36 (by omega); have hy36 : y384.length = ((ji26) : Int).toNat := (by rw [Ny384.out, List.length_take]; omega); rw [← Ny384.out] at hr36; rw [← hy36] at hcut36; have HR387 := Aside0.mk hr36; have HC387 := Aside0.mk (show y384.length ≤ c2 from by omega); clear hr36 hC36 hroom36 hi036 hsz36; have KY36 := Aside0.mk hy36; clear hy36; replace q36 := eq_true q36) | (go_at_call 76; (with_reducible refine (impl_isApart.calls k2 _ _ t377 _ _ y384 true _ ?side1 ?side2 ?side3 ?side4 A29.out).mono ?_); (case side1 => exact ca_ (Kd.S_reads' HO_7.out).2.2); (case side2 => exact (Kd.S_reads' HO_7.out).2.1); (case side3 => exact ca_ (Kd.C_below HR387.out (bl2_ HB.out GE374.out GE381.out))); (case side4 => exact HC387.out); rintro e w37 ⟨rfl, hb⟩; have n0_ := Aside0.mk (Kd.S_below (by (with_reducible repeat (first | apply Kd.S_alloc | apply Kd.S_drewN | apply Kd.S_drew)); exact HO_7.out) hb); have n1_ := Aside0.mk (blk_below (g := gb374) (o := .cells #[.int .i64 a0_0, .slice A0_1 l0_1.length c0_1] 29 (0, 0)) (bk_ BK374.out) hb); have n2_ := Aside0.mk (blk_below (g := gb381) (o := .cells #[.int .i64 ((rd_T68 l2 x27_2).f0), .int .i64 ((rd_T68 l2 x27_2).f1)] 68 (0, 0)) (bk_ BK381.out) hb); have n3_ := Aside0.mk (below_step (bl2_ HB.out GE374.out GE381.out) hb); clear HO_7; clear BK374; clear BK381; clear HB; have HO_7 := n0_; have BK374 := n1_; have BK381 := n2_; have HB := n3_; clear n0_ n1_ n2_ n3_; (try clear hb); (try clear hb2); (try clear hk); (try clear hi)))
           go_roundg k2
           case measure => have := HJ3.out; have := HK2.out; omega
           case rel => exact ⟨(ji26), (by first | rfl | (simp; done) | (simp only [← hji26] <;> (first | rfl | simp)) | (simp [*]; done)), H', ⟨by have := HJ3.out; have := HK2.out; omega⟩, ⟨by (with_reducible repeat (first | apply Kd.S_alloc | apply Kd.S_drewN | apply Kd.S_drew)); exact HO_7.out⟩, ⟨bk_ BK374.out⟩, ⟨bl2_ HB.out GE374.out GE381.out⟩⟩
          ·replace c30 := Bool.eq_false_iff.mpr c30
           subst c30
           have H1 : (some false) = some r := by rw [if_neg (show ¬ (false = true) by decide)] at H; exact H
           clear H
           have H := H1
           clear H1
           obtain rfl := Option.some.inj H
           have p380 : 0 ≤ (x27_2 : Int) := od_
           have q380 : x27_2 < (l2.length : Int) := od_
           obtain ⟨ad380, e380, hx380_0, hx380_1⟩ := at_T68 HR2.out x27_2 p380 q380
           cases e380
           replace hx380_0 := (HB.out.cell (World.block_lt_of_cell? w _ hx380_0)).trans hx380_0
           replace hx380_1 := (HB.out.cell (World.block_lt_of_cell? w _ hx380_1)).trans hx380_1
           replace p380 := eq_true p380
           replace q380 := eq_true q380
           go_wp2_with (first | ((with_reducible refine gate_dst (N := 9) rfl ?_); refine box_event ?hg (N := 9) ?hd (cs := #[.int .i64 0, .int .i64 0]) (t := 68) ?hr ?_; (case hd => rfl); (case hg => rfl); (case hr => first | (go_simp; done) | (go_simp; rfl)); intro gb381 hg w38 hbox hb; have n0_ := Aside0.mk (Kd.S_below (by (with_reducible repeat (first | apply Kd.S_alloc | apply Kd.S_drewN | apply Kd.S_drew)); exact HO_7.out) hb); have n1_ := Aside0.mk (blk_below (g := gb374) (o := .cells #[.int .i64 a0_0, .slice A0_1 l0_1.length c0_1] 29 (0, 0)) (bk_ BK374.out) hb); have n2_ := Aside0.mk (below_step (bl1_ HB.out GE374.out) hb); have n3_ := Aside0.mk (hbox); have n4_ := Aside0.mk ((by rw [hg]; exact (below_size (bl1_ HB.out GE374.out)) : w.heap.size ≤ gb381)); have n5_ := Aside0.mk ((by rw [hg]; exact (below_size (bl1_ HB.out GE374.out)) : w.heap.size ≤ gb381)); have n6_ := Aside0.mk ((by rw [hg]; exact Nat.ne_of_lt (blk_lt (bk_ BK374.out)) : gb374 ≠ gb381)); have n7_ := Aside0.mk ((by rw [hg]; exact Nat.ne_of_gt (blk_lt (bk_ BK374.out)) : gb381 ≠ gb374)); clear HO_7; clear BK374; clear HB; have HO_7 := n0_; have BK374 := n1_; have HB := n2_; have BK381 := n3_; have GW381 := n4_; have GE381 := n5_; have NB374_381 := n6_; have NB381_374 := n7_; clear n0_ n1_ n2_ n3_ n4_ n5_ n6_ n7_; clear hb hbox hg; have hnb39 := NB381_374.out; have hnc39 := NB374_381.out; have hcz40_0 : w38.cell? ⟨gb381, 0, none⟩ = some (.int .i64 0) := (blk_cell BK381.out 0).trans rfl; have hcz40_1 : w38.cell? ⟨gb381, 1, none⟩ = some (.int .i64 0) := (blk_cell BK381.out 1).trans rfl; have hfz40_0 := blk_frozen BK381.out 0; have hfz40_1 := blk_frozen BK381.out 1) | ((with_reducible refine gate_store (t := 68) (p := 9) rfl ?_); refine store_event (t := 68) (p := 9) (v := ?vo_w41) (w1 := ((w38.setCell ⟨gb381, 0, none⟩ (.int .i64 ((rd_T68 l2 x27_2).f0))).setCell ⟨gb381, 1, none⟩ (.int .i64 ((rd_T68 l2 x27_2).f1)))) ?hg ?ho ?hn ?hr ?_; (case ho => rfl); (case hg => rfl); (case hn => rfl); (case hr => first | (go_simp; done) | (go_simp; rfl)); intro w41 hw; have n0_ : Aside0 (Kd.S (Kd.slice 2 (Kd.int .i64)) 36 w41 w.heap.size (fun _ => True) (.slice Ao18 t377.length co18) t377) := ⟨(by rw [hw]; exact (by (with_reducible repeat (first | apply Kd.S_alloc | apply Kd.S_drewN | apply Kd.S_drew)); exact Kd.S_mono (Kd.S_far (p := ⟨gb381, 1, none⟩) (Kd.S_far (p := ⟨gb381, 0, none⟩) (Kd.S_types HO_7.out BK381.out (by decide)) (fun _ hk => hk.2) (.int .i64 ((rd_T68 l2 x27_2).f0))) (fun _ hk => hk.2) (.int .i64 ((rd_T68 l2 x27_2).f1))) (fun _ hk => trivial)))⟩; have n1_ : Aside0 (w41.heap[gb374]? = some (.cells #[.int .i64 a0_0, .slice A0_1 l0_1.length c0_1] 29 (0, 0))) := ⟨(by rw [hw]; exact (by (with_reducible repeat (first | refine blk_drewN ?_ _ | refine blk_drew ?_ | refine blk_alloc ?_ _)); refine blk_far ?_ NB374_381.out _; (with_reducible repeat (first | refine blk_drewN ?_ _ | refine blk_drew ?_ | refine blk_alloc ?_ _)); refine blk_far ?_ NB374_381.out _; (with_reducible repeat (first | refine blk_drewN ?_ _ | refine blk_drew ?_ | refine blk_alloc ?_ _)); exact BK374.out))⟩; have n2_ : Aside0 (w41.heap[gb381]? = some (.cells #[.int .i64 ((rd_T68 l2 x27_2).f0), .int .i64 ((rd_T68 l2 x27_2).f1)] 68 (0, 0))) := ⟨(by rw [hw]; exact (by (with_reducible repeat (first | refine blk_drewN ?_ _ | refine blk_drew ?_ | refine blk_alloc ?_ _)); refine blk_put (cs := #[.int .i64 ((rd_T68 l2 x27_2).f0), .int .i64 0]) ?_ 1 _ rfl; (with_reducible repeat (first | refine blk_drewN ?_ _ | refine blk_drew ?_ | refine blk_alloc ?_ _)); refine blk_put (cs := #[.int .i64 0, .int .i64 0]) ?_ 0 _ rfl; (with_reducible repeat (first | refine blk_drewN ?_ _ | refine blk_drew ?_ | refine blk_alloc ?_ _)); exact BK381.out))⟩; have n3_ : Aside0 (Below w.heap.size w w41) := ⟨(by rw [hw]; exact (bl2_ HB.out GE374.out GE381.out))⟩; clear hw; clear HO_7; clear BK374; clear BK381; clear HB; have HO_7 := n0_; have BK374 := n1_; have BK381 := n2_; have HB := n3_; clear n0_ n1_ n2_ n3_; have hcz42_0 : w41.cell? ⟨gb381, 0, none⟩ = some (.int .i64 ((rd_T68 l2 x27_2).f0)) := (blk_cell BK381.out 0).trans rfl; have hcz42_1 : w41.cell? ⟨gb381, 1, none⟩ = some (.int .i64 ((rd_T68 l2 x27_2).f1)) := (blk_cell BK381.out 1).trans rfl; have hfz42_0 := blk_frozen BK381.out 0; have hfz42_1 := blk_frozen BK381.out 1) | ((with_reducible refine gate_callee (f := 60) rfl ?_); refine goesL_ (some 35) rfl rfl Try.func60 (by kernel_rfl) rfl #[.int .i64 ((rd_T68 l2 x27_2).f0), .int .i64 0, .int .i64 a1] rfl mp_ ?_; (with_reducible refine (impl_within.calls ((rd_T68 l2 x27_2).f0) 0 a1 true _ A22.out).mono ?_); rintro e w' ⟨rfl, ⟨nd, rfl⟩⟩; refine ⟨_, rfl, ?_⟩) | (go_at_call 60; (with_reducible refine (impl_within.calls ((rd_T68 l2 x27_2).f1) 0 a1 true _ A24.out).mono ?_); rintro e w' ⟨rfl, ⟨nd, rfl⟩⟩; have q43 : ((ji26) : Int) ≤ ((l2.length : Int) : Int) := od_; obtain ⟨i043, hi043, _, hsz43, _⟩ := info_parts info68; have hroom43 : l2.length ≤ c2 := HC2.out; have hC43 : Kd.C k68 _ (some ad380) l2.length l2 := HR2.out; have hcut43 := cut_to (P := Try.prog) 49 68 .i64 Try.underlying49 hi043 (some ad380) l2.length c2 (ji26) (od_) q43 hroom43; have hr43 := Kd.C_take (m := ((ji26) : Int).toNat) hC43 (by omega); have hy43 : y384.length = ((ji26) : Int).toNat := (by rw [Ny384.out, List.length_take]; omega); rw [← Ny384.out] at hr43; rw [← hy43] at hcut43; have HR387 := Aside0.mk hr43; have HC387 := Aside0.mk (show y384.length ≤ c2 from by omega); clear hr43 hC43 hroom43 hi043 hsz43; have KY43 := Aside0.mk hy43; clear hy43; replace q43 := eq_true q43) | (go_at_call 76; (with_reducible refine (impl_isApart.calls k2 _ _ t377 _ _ y384 false _ ?side1 ?side2 ?side3 ?side4 A29.out).mono ?_); (case side1 => exact ca_ (Kd.S_reads' HO_7.out).2.2); (case side2 => exact (Kd.S_reads' HO_7.out).2.1); (case side3 => exact ca_ (Kd.C_below HR387.out (bl2_ HB.out GE374.out GE381.out))); (case side4 => exact HC387.out); rintro e w44 ⟨rfl, hb⟩; have n0_ := Aside0.mk (Kd.S_below (by (with_reducible repeat (first | apply Kd.S_alloc | apply Kd.S_drewN | apply Kd.S_drew)); exact HO_7.out) hb); have n1_ := Aside0.mk (blk_below (g := gb374) (o := .cells #[.int .i64 a0_0, .slice A0_1 l0_1.length c0_1] 29 (0, 0)) (bk_ BK374.out) hb); have n2_ := Aside0.mk (blk_below (g := gb381) (o := .cells #[.int .i64 ((rd_T68 l2 x27_2).f0), .int .i64 ((rd_T68 l2 x27_2).f1)] 68 (0, 0)) (bk_ BK381.out) hb); have n3_ := Aside0.mk (below_step (bl2_ HB.out GE374.out GE381.out) hb); clear HO_7; clear BK374; clear BK381; clear HB; have HO_7 := n0_; have BK374 := n1_; have BK381 := n2_; have HB := n3_; clear n0_ n1_ n2_ n3_; (try clear hb); (try clear hb2); (try clear hk); (try clear hi)))
           go_ret
           exact ⟨by first | rfl | (simp [errW_none, errW_some] <;> rfl) | (simp only [← hji26]; first | rfl | (simp [errW_none, errW_some] <;> rfl)) | (simp [*, errW_none, errW_some] <;> rfl), bl2_ HB.out GE374.out GE381.out⟩
         ·replace c25 := Bool.eq_false_iff.mpr c25
          subst c25
          have H1 : (some false) = some r := by rw [if_neg (show ¬ (false = true) by decide)] at H; exact H
          clear H
          have H := H1
          clear H1
          obtain rfl := Option.some.inj H
          have p380 : 0 ≤ (x27_2 : Int) := od_
          have q380 : x27_2 < (l2.length : Int) := od_
          obtain ⟨ad380, e380, hx380_0, hx380_1⟩ := at_T68 HR2.out x27_2 p380 q380
          cases e380
          replace hx380_0 := (HB.out.cell (World.block_lt_of_cell? w _ hx380_0)).trans hx380_0
          replace hx380_1 := (HB.out.cell (World.block_lt_of_cell? w _ hx380_1)).trans hx380_1
          replace p380 := eq_true p380
          replace q380 := eq_true q380
          go_wp2_with (first | ((with_reducible refine gate_dst (N := 9) rfl ?_); refine box_event ?hg (N := 9) ?hd (cs := #[.int .i64 0, .int .i64 0]) (t := 68) ?hr ?_; (case hd => rfl); (case hg => rfl); (case hr => first | (go_simp; done) | (go_simp; rfl)); intro gb381 hg w45 hbox hb; have n0_ := Aside0.mk (Kd.S_below (by (with_reducible repeat (first | apply Kd.S_alloc | apply Kd.S_drewN | apply Kd.S_drew)); exact HO_7.out) hb); have n1_ := Aside0.mk (blk_below (g := gb374) (o := .cells #[.int .i64 a0_0, .slice A0_1 l0_1.length c0_1] 29 (0, 0)) (bk_ BK374.out) hb); have n2_ := Aside0.mk (below_step (bl1_ HB.out GE374.out) hb); have n3_ := Aside0.mk (hbox); have n4_ := Aside0.mk ((by rw [hg]; exact (below_size (bl1_ HB.out GE374.out)) : w.heap.size ≤ gb381)); have n5_ := Aside0.mk ((by rw [hg]; exact (below_size (bl1_ HB.out GE374.out)) : w.heap.size ≤ gb381)); have n6_ := Aside0.mk ((by rw [hg]; exact Nat.ne_of_lt (blk_lt (bk_ BK374.out)) : gb374 ≠ gb381)); have n7_ := Aside0.mk ((by rw [hg]; exact Nat.ne_of_gt (blk_lt (bk_ BK374.out)) : gb381 ≠ gb374)); clear HO_7; clear BK374; clear HB; have HO_7 := n0_; have BK374 := n1_; have HB := n2_; have BK381 := n3_; have GW381 := n4_; have GE381 := n5_; have NB374_381 := n6_; have NB381_374 := n7_; clear n0_ n1_ n2_ n3_ n4_ n5_ n6_ n7_; clear hb hbox hg; have hnb46 := NB381_374.out; have hnc46 := NB374_381.out; have hcz47_0 : w45.cell? ⟨gb381, 0, none⟩ = some (.int .i64 0) := (blk_cell BK381.out 0).trans rfl; have hcz47_1 : w45.cell? ⟨gb381, 1, none⟩ = some (.int .i64 0) := (blk_cell BK381.out 1).trans rfl; have hfz47_0 := blk_frozen BK381.out 0; have hfz47_1 := blk_frozen BK381.out 1) | ((with_reducible refine gate_callee (f := 60) rfl ?_); refine goesL_ (some 35) rfl rfl Try.func60 (by kernel_rfl) rfl #[.int .i64 ((rd_T68 l2 x27_2).f0), .int .i64 0, .int .i64 a1] rfl mp_ ?_; (with_reducible refine (impl_within.calls ((rd_T68 l2 x27_2).f0) 0 a1 true _ A22.out).mono ?_); rintro e w' ⟨rfl, ⟨nd, rfl⟩⟩; refine ⟨_, rfl, ?_⟩) | (go_at_call 60; (with_reducible refine (impl_within.calls ((rd_T68 l2 x27_2).f1) 0 a1 false _ A24.out).mono ?_); rintro e w' ⟨rfl, ⟨nd, rfl⟩⟩))
          go_ret
          exact ⟨re_, bl2_ HB.out GE374.out GE381.out⟩
        ·replace c23 := Bool.eq_false_iff.mpr c23
         subst c23
         have H1 : (some false) = some r := by rw [if_neg (show ¬ (false = true) by decide)] at H; exact H
         clear H
         have H := H1
         clear H1
         obtain rfl := Option.some.inj H
         have p380 : 0 ≤ (x27_2 : Int) := od_
         have q380 : x27_2 < (l2.length : Int) := od_
         obtain ⟨ad380, e380, hx380_0, hx380_1⟩ := at_T68 HR2.out x27_2 p380 q380
         cases e380
         replace hx380_0 := (HB.out.cell (World.block_lt_of_cell? w _ hx380_0)).trans hx380_0
         replace hx380_1 := (HB.out.cell (World.block_lt_of_cell? w _ hx380_1)).trans hx380_1
         replace p380 := eq_true p380
         replace q380 := eq_true q380
         go_wp2_with (first | ((with_reducible refine gate_dst (N := 9) rfl ?_); refine box_event ?hg (N := 9) ?hd (cs := #[.int .i64 0, .int .i64 0]) (t := 68) ?hr ?_; (case hd => rfl); (case hg => rfl); (case hr => first | (go_simp; done) | (go_simp; rfl)); intro gb381 hg w48 hbox hb; have n0_ := Aside0.mk (Kd.S_below (by (with_reducible repeat (first | apply Kd.S_alloc | apply Kd.S_drewN | apply Kd.S_drew)); exact HO_7.out) hb); have n1_ := Aside0.mk (blk_below (g := gb374) (o := .cells #[.int .i64 a0_0, .slice A0_1 l0_1.length c0_1] 29 (0, 0)) (bk_ BK374.out) hb); have n2_ := Aside0.mk (below_step (bl1_ HB.out GE374.out) hb); have n3_ := Aside0.mk (hbox); have n4_ := Aside0.mk ((by rw [hg]; exact (below_size (bl1_ HB.out GE374.out)) : w.heap.size ≤ gb381)); have n5_ := Aside0.mk ((by rw [hg]; exact (below_size (bl1_ HB.out GE374.out)) : w.heap.size ≤ gb381)); have n6_ := Aside0.mk ((by rw [hg]; exact Nat.ne_of_lt (blk_lt (bk_ BK374.out)) : gb374 ≠ gb381)); have n7_ := Aside0.mk ((by rw [hg]; exact Nat.ne_of_gt (blk_lt (bk_ BK374.out)) : gb381 ≠ gb374)); clear HO_7; clear BK374; clear HB; have HO_7 := n0_; have BK374 := n1_; have HB := n2_; have BK381 := n3_; have GW381 := n4_; have GE381 := n5_; have NB374_381 := n6_; have NB381_374 := n7_; clear n0_ n1_ n2_ n3_ n4_ n5_ n6_ n7_; clear hb hbox hg; have hnb49 := NB381_374.out; have hnc49 := NB374_381.out; have hcz50_0 : w48.cell? ⟨gb381, 0, none⟩ = some (.int .i64 0) := (blk_cell BK381.out 0).trans rfl; have hcz50_1 : w48.cell? ⟨gb381, 1, none⟩ = some (.int .i64 0) := (blk_cell BK381.out 1).trans rfl; have hfz50_0 := blk_frozen BK381.out 0; have hfz50_1 := blk_frozen BK381.out 1) | ((with_reducible refine gate_callee (f := 60) rfl ?_); refine goesL_ (some 35) rfl rfl Try.func60 (by kernel_rfl) rfl #[.int .i64 ((rd_T68 l2 x27_2).f0), .int .i64 0, .int .i64 a1] rfl mp_ ?_; (with_reducible refine (impl_within.calls ((rd_T68 l2 x27_2).f0) 0 a1 false _ A22.out).mono ?_); rintro e w' ⟨rfl, ⟨nd, rfl⟩⟩; refine ⟨_, rfl, ?_⟩))
         go_ret
         exact ⟨re_, bl2_ HB.out GE374.out GE381.out⟩
       ·rw [if_neg c19] at H
        have c19b0 := decide_eq_false c19
        clear c19
        obtain rfl := Option.some.inj H
        go_wp2
        go_ret
        exact ⟨re_, bl1_ HB.out GE374.out⟩
    ·rw [if_neg c15] at H
     have c15b0 : ((l2.length : Int) == (t377.length : Int)) = false := beq_eq_false_iff_ne.mpr c15
     have c15b1 : ((l2.length : Int) != (t377.length : Int)) = true := bne_iff_ne.mpr c15
     have c15b2 : (l2.length == t377.length) = false := by first | simpa using c15 | (simp at c15 ⊢; omega)
     obtain rfl := Option.some.inj H
     have hcz51_0 : wc.cell? ⟨gb374, 0, none⟩ = some (.int .i64 a0_0) := (blk_cell BK374.out 0).trans rfl
     have hcz51_1 : wc.cell? ⟨gb374, 1, none⟩ = some (.slice A0_1 l0_1.length c0_1) := (blk_cell BK374.out 1).trans rfl
     have hfz51_0 := blk_frozen BK374.out 0
     have hfz51_1 := blk_frozen BK374.out 1
     go_wp2_with (first | ((with_reducible refine gate_callee (f := 71) rfl ?_); refine goesL_ (some 19) rfl rfl Try.func71 (by kernel_rfl) rfl #[.agg #[.int .i64 a0_0, .slice A0_1 l0_1.length c0_1]] rfl mp_ ?_; (with_reducible refine (impl_Tree_leafDistances.calls kj3 a0_0 _ _ l0_1 t377 _ ?side1 ?side2 A14.out).mono ?_); (case side1 => exact ca_ (Kd.C_below HR0_1.out HB.out)); (case side2 => exact HC0_1.out); rintro e w52 ⟨v378, rfl, ho0, hb⟩; refine ⟨_, rfl, ?_⟩; have n0_ := Aside0.mk (Kd.S_lower ho0 (below_size (bl1_ HB.out GE374.out))); have n1_ := Aside0.mk (blk_below (g := gb374) (o := .cells #[.int .i64 a0_0, .slice A0_1 l0_1.length c0_1] 29 (0, 0)) (bk_ BK374.out) hb); have n2_ := Aside0.mk (below_step (bl1_ HB.out GE374.out) hb); clear BK374; clear HB; have HO379 := n0_; have BK374 := n1_; have HB := n2_; clear n0_ n1_ n2_; (try clear hb); (try clear hb2); (try clear hk); (try clear hi); (try clear ho0); obtain ⟨Ao53, co53, eo53⟩ := Kd.S_slice HO379.out; subst eo53))
     go_ret
     exact ⟨re_, bl1_ HB.out GE374.out⟩

end Go.Proofs.Ytnbhnkpefhdgjaa.I
