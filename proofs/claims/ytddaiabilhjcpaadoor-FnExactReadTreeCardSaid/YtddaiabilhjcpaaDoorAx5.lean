/- For functions of the translation: a Lean function each, and that the call of the Go function comes to its answer. Written by this session's own program (myprint.py, over the kit's printer). -/
import Derived.Test.YtddaiabilhjcpaaDoorAx0
import Derived.Test.YtddaiabilhjcpaaDoorAx1
import Derived.Test.YtddaiabilhjcpaaDoorAx2
import Derived.Test.YtddaiabilhjcpaaDoorAx3
import Derived.Test.YtddaiabilhjcpaaDoorAx4
--compacted
namespace Go.Proofs.YtddaiabilhjcpaaDoor.A
open Go.RowKit Go.Proofs.YtddaiabilhjcpaaDoorW.PrintWords Go.Proofs.YtddaiabilhjcpaaDoorW.PrintLast Go.Proofs.YtddaiabilhjcpaaDoorW.PrintMore
attribute [local go_sem] max2_int min2_int max_two min_two max_three min_three max_four min_four   -- for this text's walks alone
set_option linter.unusedVariables false
set_option linter.unusedSimpArgs false

/-! ### impl_ValidTree: function 24 -/
def impl_ValidTree.j0 : Nat → Bool → Int → List (S52) → Option (Bool)
 | 0, _, _, _ => none
 | k + 1, x13, x148000, x148001 => if x13 = true then (some false) else ((impl_Tree_far.f k x148000 x148001 0).bind fun bt150 => ((slices_Min_int64_int64.f k bt150.1).bind fun t156 => (some (decide (t156 ≥ 0)))))
def impl_ValidTree.f (k : Nat) (a0_0 : Int) (l0_1 : List (S52)) : Option (Bool) := (impl_within.f a0_0 2 16).bind fun t148 => (if t148 = true then ((impl_Tree_areEdges.f k a0_0 l0_1).bind fun t149 => (impl_ValidTree.j0 k (!t149) a0_0 l0_1)) else (impl_ValidTree.j0 k true a0_0 l0_1))
theorem impl_ValidTree.mono_l : ∀ k, (∀ y0 y1 y2, LeO (impl_ValidTree.j0 k y0 y1 y2) (impl_ValidTree.j0 (k + 1) y0 y1 y2))
 | 0 => fun _ _ _ r h => by simp [impl_ValidTree.j0] at h
 | k + 1 => by
  have ih0 := impl_ValidTree.mono_l k
  ·intro y0 y1 y2
   unfold impl_ValidTree.j0
   repeat' first
   | (with_reducible exact ih0 _ _ _)
   | (with_reducible exact impl_Tree_areEdges.mono _ _ _)
   | (with_reducible exact impl_Tree_far.mono _ _ _ _)
   | (with_reducible exact slices_Min_int64_int64.mono _ _)
   | (with_reducible exact LeO.refl _)
   | (with_reducible exact LeO.none _)
   | (with_reducible refine LeO.ite ?_ ?_)
   | (with_reducible refine LeO.bind ?_ (fun _ => ?_))
   | exact impl_Tree_areEdges.mono _ _ _
   | exact impl_Tree_far.mono _ _ _ _
   | exact slices_Min_int64_int64.mono _ _
   | exact LeO.none _
   | refine LeO.ite ?_ ?_
   | refine LeO.bind ?_ (fun _ => ?_)
theorem impl_ValidTree.mono : ∀ a0 a1 k, LeO (impl_ValidTree.f k a0 a1) (impl_ValidTree.f (k + 1) a0 a1) := by
 intro a0 a1 k
 have ih0 := impl_ValidTree.mono_l k
 unfold impl_ValidTree.f
 repeat' first
   | (with_reducible exact ih0 _ _ _)
   | (with_reducible exact impl_Tree_areEdges.mono _ _ _)
   | (with_reducible exact impl_Tree_far.mono _ _ _ _)
   | (with_reducible exact slices_Min_int64_int64.mono _ _)
   | (with_reducible exact LeO.refl _)
   | (with_reducible exact LeO.none _)
   | (with_reducible refine LeO.ite ?_ ?_)
   | (with_reducible refine LeO.bind ?_ (fun _ => ?_))
   | exact impl_Tree_areEdges.mono _ _ _
   | exact impl_Tree_far.mono _ _ _ _
   | exact slices_Min_int64_int64.mono _ _
   | exact LeO.none _
   | refine LeO.ite ?_ ?_
   | refine LeO.bind ?_ (fun _ => ?_)
set_option maxHeartbeats 8000000 in
set_option maxRecDepth 100000 in
theorem impl_ValidTree.calls (k : Nat) (a0_0 : Int) (A0_1 : Option Addr) (c0_1 : Nat) (l0_1 : List (S52)) (r : Bool) (w : World) (hr0_1 : Kd.C k52 w A0_1 l0_1.length l0_1) (hc0_1 : l0_1.length ≤ c0_1) (h : impl_ValidTree.f k a0_0 l0_1 = some r) :
  Calls Tryd.prog 24 #[.agg #[.int .i64 a0_0, .slice A0_1 l0_1.length c0_1]] w fun e w' => e = .returned (.bool r) ∧ Below w.heap.size w w' := by
 have hu26 := Tryd.underlying26
 have HR0_1 := Aside0.mk hr0_1
 have HC0_1 := Aside0.mk hc0_1
 clear hr0_1 hc0_1
 have HB := Aside0.mk (Below.refl w.heap.size w)
 have H : ((impl_within.f a0_0 2 16).bind fun t148 => (if t148 = true then ((impl_Tree_areEdges.f k a0_0 l0_1).bind fun t149 => (impl_ValidTree.j0 k (!t149) a0_0 l0_1)) else (impl_ValidTree.j0 k true a0_0 l0_1))) = some r := h
 clear h
 have HC2 := Aside0.mk H
 clear H
 go_enter Tryd.func24, Tryd.ntmps24
 go_upto_region 1 with (first | ((with_reducible refine gate_dst (N := 1) rfl ?_); refine box_event ?hg (N := 1) ?hd (cs := #[.int .i64 a0_0, .slice A0_1 l0_1.length c0_1]) (t := 26) ?hr ?_; (case hd => rfl); (case hg => rfl); (case hr => first | (go_simp; done) | (go_simp; rfl)); intro gb147 hg w3 hbox hb; have n0_ := Aside0.mk (below_step (bl0_ HB.out) hb); have n1_ := Aside0.mk (hbox); have n2_ := Aside0.mk ((by rw [hg]; exact (below_size (bl0_ HB.out)) : w.heap.size ≤ gb147)); have n3_ := Aside0.mk ((by rw [hg]; exact (below_size (bl0_ HB.out)) : w.heap.size ≤ gb147)); clear HB; have HB := n0_; have BK147 := n1_; have GW147 := n2_; have GE147 := n3_; clear n0_ n1_ n2_ n3_; clear hb hbox hg))
 (try simp only [Act.put, List.setIfInBounds_toArray, List.set_cons_zero, List.set_cons_succ])
 go_cut [13] (fun v13 wc => ∃ (kq : Nat) (x13_1 : Bool), v13 = .bool x13_1 ∧ Aside0 (impl_ValidTree.j0 kq x13_1 a0_0 l0_1 = some r) ∧ Aside0 (kq ≤ k) ∧ Aside0 (wc.heap[gb147]? = some (.cells #[.int .i64 a0_0, (.slice A0_1 l0_1.length c0_1)] 26 (0, 0))) ∧ Aside0 (Below w.heap.size w wc))
 case first =>
  have H := HC2.out
  clear HC2
  replace H := Option.bind_eq_some_iff.mp H
  obtain ⟨t148, A40, H⟩ := H
  replace H : (if t148 = true then ((impl_Tree_areEdges.f k a0_0 l0_1).bind fun t149 => (impl_ValidTree.j0 k (!t149) a0_0 l0_1)) else (impl_ValidTree.j0 k true a0_0 l0_1)) = some r := H
  have A4 := Aside0.mk A40
  clear A40
  by_cases c5 : t148 = true
  ·subst c5
   have H1 : ((impl_Tree_areEdges.f k a0_0 l0_1).bind fun t149 => (impl_ValidTree.j0 k (!t149) a0_0 l0_1)) = some r := by rw [if_pos rfl] at H; exact H
   clear H
   have H := H1
   clear H1
   replace H := Option.bind_eq_some_iff.mp H
   obtain ⟨t149, A60, H⟩ := H
   replace H : (impl_ValidTree.j0 k (!t149) a0_0 l0_1) = some r := H
   have A6 := Aside0.mk A60
   clear A60
   have H' := Aside0.mk H
   clear H
   obtain ⟨hcz7_0, hcz7_1, hfz7_0, hfz7_1⟩ := cz2_ BK147.out
   go_wp2_with (first | ((with_reducible refine gate_callee (f := 43) rfl ?_); refine goesL_ (some 7) rfl rfl Tryd.func43 (by kernel_rfl) rfl #[.int .i64 a0_0, .int .i64 2, .int .i64 16] rfl mp_ ?_; (with_reducible refine (impl_within.calls a0_0 2 16 true _ A4.out).mono ?_); rintro e w' ⟨rfl, ⟨nd, rfl⟩⟩; refine ⟨_, rfl, ?_⟩) | (go_at_call 44; (with_reducible refine (impl_Tree_areEdges.calls k a0_0 _ _ l0_1 t149 _ ?side1 ?side2 A6.out).mono ?_); (case side1 => exact ca_ (Kd.C_below HR0_1.out (bl1_ HB.out GE147.out))); (case side2 => exact HC0_1.out); rintro e w8 ⟨rfl, hb⟩; have n0_ := Aside0.mk (blk_below (g := gb147) (o := .cells #[.int .i64 a0_0, .slice A0_1 l0_1.length c0_1] 26 (0, 0)) (bk_ BK147.out) hb); have n1_ := Aside0.mk (below_step (bl1_ HB.out GE147.out) hb); clear BK147; clear HB; have BK147 := n0_; have HB := n1_; clear n0_ n1_; (try clear hb); (try clear hb2); (try clear hk); (try clear hi)))
   go_meet
   case rel => exact ⟨_, (!t149), rs_, H', ⟨by first | omega | exact Nat.le_refl _⟩, ⟨bk_ BK147.out⟩, ⟨bl1_ HB.out GE147.out⟩⟩
  ·replace c5 := Bool.eq_false_iff.mpr c5
   subst c5
   have H1 : (impl_ValidTree.j0 k true a0_0 l0_1) = some r := by rw [if_neg (show ¬ (false = true) by decide)] at H; exact H
   clear H
   have H := H1
   clear H1
   have H' := Aside0.mk H
   clear H
   obtain ⟨hcz9_0, hcz9_1, hfz9_0, hfz9_1⟩ := cz2_ BK147.out
   go_wp2_with (first | ((with_reducible refine gate_callee (f := 43) rfl ?_); refine goesL_ (some 7) rfl rfl Tryd.func43 (by kernel_rfl) rfl #[.int .i64 a0_0, .int .i64 2, .int .i64 16] rfl mp_ ?_; (with_reducible refine (impl_within.calls a0_0 2 16 false _ A4.out).mono ?_); rintro e w' ⟨rfl, ⟨nd, rfl⟩⟩; refine ⟨_, rfl, ?_⟩))
   go_meet
   case rel => exact ⟨_, (true), rs_, H', ⟨by first | omega | exact Nat.le_refl _⟩, ⟨bk_ BK147.out⟩, ⟨bl1_ HB.out GE147.out⟩⟩
 case rest =>
  clear HC2
  try clear c2
  try clear p2
  try clear c4
  try clear c5
  try clear hcz7_0
  try clear hcz7_1
  try clear hcz9_0
  try clear hcz9_1
  try clear hfz7_0
  try clear hfz7_1
  try clear hfz9_0
  try clear hfz9_1
  obtain ⟨kq, x13_1, rfl, HA, HJ1, BK147, HB⟩ := hcut
  cases kq with
  | zero => exact absurd HA.out (by simp [impl_ValidTree.j0])
  | succ kj1 =>
   have H := HA.out
   clear HA
   simp only [impl_ValidTree.j0] at H
   by_cases c10 : x13_1 = true
   ·subst c10
    have H1 : (some false) = some r := by rw [if_pos rfl] at H; exact H
    clear H
    have H := H1
    clear H1
    obtain rfl := Option.some.inj H
    go_wp2
    go_ret
    exact ⟨re_, bl1_ HB.out GE147.out⟩
   ·replace c10 := Bool.eq_false_iff.mpr c10
    subst c10
    have H1 : ((impl_Tree_far.f kj1 a0_0 l0_1 0).bind fun bt150 => ((slices_Min_int64_int64.f kj1 bt150.1).bind fun t156 => (some (decide (t156 ≥ 0))))) = some r := by rw [if_neg (show ¬ (false = true) by decide)] at H; exact H
    clear H
    have H := H1
    clear H1
    replace H := Option.bind_eq_some_iff.mp H
    obtain ⟨⟨t150, t153⟩, A110, H⟩ := H
    replace H : ((slices_Min_int64_int64.f kj1 t150).bind fun t156 => (some (decide (t156 ≥ 0)))) = some r := H
    have A11 := Aside0.mk A110
    clear A110
    replace H := Option.bind_eq_some_iff.mp H
    obtain ⟨t156, A120, H⟩ := H
    replace H : (some (decide (t156 ≥ 0))) = some r := H
    have A12 := Aside0.mk A120
    clear A120
    obtain rfl := Option.some.inj H
    obtain ⟨hcz13_0, hcz13_1, hfz13_0, hfz13_1⟩ := cz2_ BK147.out
    go_wp2_with (first | ((with_reducible refine gate_callee (f := 30) rfl ?_); refine goesL_ (some 16) rfl rfl Tryd.func30 (by kernel_rfl) rfl #[.agg #[.int .i64 a0_0, .slice A0_1 l0_1.length c0_1], .int .i64 0] rfl mp_ ?_; (with_reducible refine (impl_Tree_far.calls kj1 a0_0 _ _ l0_1 0 t150 t153 _ ?side1 ?side2 A11.out).mono ?_); (case side1 => exact ca_ (Kd.C_below HR0_1.out HB.out)); (case side2 => exact HC0_1.out); rintro e w14 ⟨v151, v154, rfl, ho0, ho1, hb⟩; refine ⟨_, rfl, ?_⟩; have n0_ := Aside0.mk (Kd.R_lower ho0 (below_size (bl1_ HB.out GE147.out))); have n1_ := Aside0.mk (Kd.R_lower ho1 (below_size (bl1_ HB.out GE147.out))); have n2_ := Aside0.mk (blk_below (g := gb147) (o := .cells #[.int .i64 a0_0, .slice A0_1 l0_1.length c0_1] 26 (0, 0)) (bk_ BK147.out) hb); have n3_ := Aside0.mk (below_step (bl1_ HB.out GE147.out) hb); clear BK147; clear HB; have HO152 := n0_; have HO155 := n1_; have BK147 := n2_; have HB := n3_; clear n0_ n1_ n2_ n3_; (try clear hb); (try clear hb2); (try clear hk); (try clear hi); (try clear ho0); (try clear ho1); obtain ⟨Ao15, co15, eo15⟩ := Kd.R_slice HO152.out; subst eo15) | ((with_reducible refine gate_callee (f := 45) rfl ?_); refine goesL_ (some 20) rfl rfl Tryd.func45 (by kernel_rfl) rfl #[.slice Ao15 t150.length co15] rfl mp_ ?_; (with_reducible refine (slices_Min_int64_int64.calls kj1 _ _ t150 t156 _ ?side1 ?side2 A12.out).mono ?_); (case side1 => exact ca_ (Kd.R_reads' HO152.out).2.2); (case side2 => exact (Kd.R_reads' HO152.out).2.1); rintro e w16 ⟨rfl, hb⟩; refine ⟨_, rfl, ?_⟩; have n0_ := Aside0.mk (Kd.R_below (ra_ HO152.out) hb); have n1_ := Aside0.mk (Kd.R_below (ra_ HO155.out) hb); have n2_ := Aside0.mk (blk_below (g := gb147) (o := .cells #[.int .i64 a0_0, .slice A0_1 l0_1.length c0_1] 26 (0, 0)) (bk_ BK147.out) hb); have n3_ := Aside0.mk (below_step (bl1_ HB.out GE147.out) hb); clear HO152; clear HO155; clear BK147; clear HB; have HO152 := n0_; have HO155 := n1_; have BK147 := n2_; have HB := n3_; clear n0_ n1_ n2_ n3_; (try clear hb); (try clear hb2); (try clear hk); (try clear hi)))
    go_ret
    exact ⟨re_, bl1_ HB.out GE147.out⟩

/-! ### impl_treeText: function 25 -/
def impl_treeText.l0 : Nat → ByteArray → List (S52) → Int → Int → Option (ByteArray)
 | 0, _, _, _, _ => none
 | k + 1, x3, x10, x11, x12 => if x12 < x11 then (if 0 ≤ x12 then (if x12 < (x10.length : Int) then ((impl_decimal.f ((rd_T52 x10 x12).f0)).bind fun t161 => (if 1 + t161.size ≤ 9223372036854775807 then (if ((⟨#[32]⟩ : ByteArray) ++ t161).size + 1 ≤ 9223372036854775807 then ((impl_decimal.f ((rd_T52 x10 x12).f1)).bind fun t162 => (if (((⟨#[32]⟩ : ByteArray) ++ t161) ++ (⟨#[45]⟩ : ByteArray)).size + t162.size ≤ 9223372036854775807 then (if ((((⟨#[32]⟩ : ByteArray) ++ t161) ++ (⟨#[45]⟩ : ByteArray)) ++ t162).size + 1 ≤ 9223372036854775807 then ((impl_decimal.f ((rd_T52 x10 x12).f2)).bind fun t163 => (if (((((⟨#[32]⟩ : ByteArray) ++ t161) ++ (⟨#[45]⟩ : ByteArray)) ++ t162) ++ (⟨#[58]⟩ : ByteArray)).size + t163.size ≤ 9223372036854775807 then (if x3.size + ((((((⟨#[32]⟩ : ByteArray) ++ t161) ++ (⟨#[45]⟩ : ByteArray)) ++ t162) ++ (⟨#[58]⟩ : ByteArray)) ++ t163).size ≤ 9223372036854775807 then (impl_treeText.l0 k (x3 ++ ((((((⟨#[32]⟩ : ByteArray) ++ t161) ++ (⟨#[45]⟩ : ByteArray)) ++ t162) ++ (⟨#[58]⟩ : ByteArray)) ++ t163)) x10 x11 (wrap64 (x12 + 1))) else (none)) else (none))) else (none)) else (none))) else (none)) else (none))) else (none)) else (none)) else (some x3)
def impl_treeText.f (k : Nat) (a0_0 : Int) (l0_1 : List (S52)) : Option (ByteArray) := (impl_decimal.f a0_0).bind fun t158 => (impl_treeText.l0 k t158 l0_1 (l0_1.length : Int) 0)
theorem impl_treeText.mono_l : ∀ k, (∀ y0 y1 y2 y3, LeO (impl_treeText.l0 k y0 y1 y2 y3) (impl_treeText.l0 (k + 1) y0 y1 y2 y3))
 | 0 => fun _ _ _ _ r h => by simp [impl_treeText.l0] at h
 | k + 1 => by
  have ih0 := impl_treeText.mono_l k
  ·intro y0 y1 y2 y3
   unfold impl_treeText.l0
   repeat' first
   | (with_reducible exact ih0 _ _ _ _)
   | (with_reducible exact LeO.refl _)
   | (with_reducible exact LeO.none _)
   | (with_reducible refine LeO.ite ?_ ?_)
   | (with_reducible refine LeO.bind ?_ (fun _ => ?_))
theorem impl_treeText.mono : ∀ a0 a1 k, LeO (impl_treeText.f k a0 a1) (impl_treeText.f (k + 1) a0 a1) := by
 intro a0 a1 k
 have ih0 := impl_treeText.mono_l k
 unfold impl_treeText.f
 repeat' first
   | (with_reducible exact ih0 _ _ _ _)
   | (with_reducible exact LeO.refl _)
   | (with_reducible exact LeO.none _)
   | (with_reducible refine LeO.ite ?_ ?_)
   | (with_reducible refine LeO.bind ?_ (fun _ => ?_))
set_option maxHeartbeats 8000000 in
set_option maxRecDepth 100000 in
theorem impl_treeText.calls (k : Nat) (a0_0 : Int) (A0_1 : Option Addr) (c0_1 : Nat) (l0_1 : List (S52)) (r : ByteArray) (w : World) (hr0_1 : Kd.C k52 w A0_1 l0_1.length l0_1) (hc0_1 : l0_1.length ≤ c0_1) (h : impl_treeText.f k a0_0 l0_1 = some r) :
  Calls Tryd.prog 25 #[.agg #[.int .i64 a0_0, .slice A0_1 l0_1.length c0_1]] w fun e w' => e = .returned (.string r) ∧ Below w.heap.size w w' := by
 have hu26 := Tryd.underlying26
 have hu52 := Tryd.underlying52
 have HR0_1 := Aside0.mk hr0_1
 have HC0_1 := Aside0.mk hc0_1
 clear hr0_1 hc0_1
 have HB := Aside0.mk (Below.refl w.heap.size w)
 have H : ((impl_decimal.f a0_0).bind fun t158 => (impl_treeText.l0 k t158 l0_1 (l0_1.length : Int) 0)) = some r := h
 clear h
 replace H := Option.bind_eq_some_iff.mp H
 obtain ⟨t158, A20, H⟩ := H
 replace H : (impl_treeText.l0 k t158 l0_1 (l0_1.length : Int) 0) = some r := H
 have A2 := Aside0.mk A20
 clear A20
 have H' := Aside0.mk H
 clear H
 go_enter Tryd.func25, Tryd.ntmps25
 go_wp2_with (first | ((with_reducible refine gate_dst (N := 1) rfl ?_); refine box_event ?hg (N := 1) ?hd (cs := #[.int .i64 a0_0, .slice A0_1 l0_1.length c0_1]) (t := 26) ?hr ?_; (case hd => rfl); (case hg => rfl); (case hr => first | (go_simp; done) | (go_simp; rfl)); intro gb157 hg w3 hbox hb; have n0_ := Aside0.mk (below_step (bl0_ HB.out) hb); have n1_ := Aside0.mk (hbox); have n2_ := Aside0.mk ((by rw [hg]; exact (below_size (bl0_ HB.out)) : w.heap.size ≤ gb157)); have n3_ := Aside0.mk ((by rw [hg]; exact (below_size (bl0_ HB.out)) : w.heap.size ≤ gb157)); clear HB; have HB := n0_; have BK157 := n1_; have GW157 := n2_; have GE157 := n3_; clear n0_ n1_ n2_ n3_; clear hb hbox hg; obtain ⟨hcz4_0, hcz4_1, hfz4_0, hfz4_1⟩ := cz2_ BK157.out) | (go_at_call 41; (with_reducible refine (impl_decimal.calls a0_0 t158 _ A2.out).mono ?_); rintro e w' ⟨rfl, ⟨nd, rfl⟩⟩; (try first | exact ⟨rfl, _, World.drewN_drewN _ _ _⟩ | exact ⟨rfl, _, Eq.trans (World.drewN_drewN _ _ _) (congrArg (World.drewN _) (Nat.add_assoc _ _ _))⟩)))
 repeat (go_quiet (first | ((with_reducible refine gate_dst (N := 1) rfl ?_); refine box_event ?hg (N := 1) ?hd (cs := #[.int .i64 a0_0, .slice A0_1 l0_1.length c0_1]) (t := 26) ?hr ?_; (case hd => rfl); (case hg => rfl); (case hr => first | (go_simp; done) | (go_simp; rfl)); intro gb157 hg w3 hbox hb; have n0_ := Aside0.mk (below_step (bl0_ HB.out) hb); have n1_ := Aside0.mk (hbox); have n2_ := Aside0.mk ((by rw [hg]; exact (below_size (bl0_ HB.out)) : w.heap.size ≤ gb157)); have n3_ := Aside0.mk ((by rw [hg]; exact (below_size (bl0_ HB.out)) : w.heap.size ≤ gb157)); clear HB; have HB := n0_; have BK157 := n1_; have GW157 := n2_; have GE157 := n3_; clear n0_ n1_ n2_ n3_; clear hb hbox hg; obtain ⟨hcz4_0, hcz4_1, hfz4_0, hfz4_1⟩ := cz2_ BK157.out) | (go_at_call 41; (with_reducible refine (impl_decimal.calls a0_0 t158 _ A2.out).mono ?_); rintro e w' ⟨rfl, ⟨nd, rfl⟩⟩; (try first | exact ⟨rfl, _, World.drewN_drewN _ _ _⟩ | exact ⟨rfl, _, Eq.trans (World.drewN_drewN _ _ _) (congrArg (World.drewN _) (Nat.add_assoc _ _ _))⟩))); try go_wp2_with (first | ((with_reducible refine gate_dst (N := 1) rfl ?_); refine box_event ?hg (N := 1) ?hd (cs := #[.int .i64 a0_0, .slice A0_1 l0_1.length c0_1]) (t := 26) ?hr ?_; (case hd => rfl); (case hg => rfl); (case hr => first | (go_simp; done) | (go_simp; rfl)); intro gb157 hg w3 hbox hb; have n0_ := Aside0.mk (below_step (bl0_ HB.out) hb); have n1_ := Aside0.mk (hbox); have n2_ := Aside0.mk ((by rw [hg]; exact (below_size (bl0_ HB.out)) : w.heap.size ≤ gb157)); have n3_ := Aside0.mk ((by rw [hg]; exact (below_size (bl0_ HB.out)) : w.heap.size ≤ gb157)); clear HB; have HB := n0_; have BK157 := n1_; have GW157 := n2_; have GE157 := n3_; clear n0_ n1_ n2_ n3_; clear hb hbox hg; obtain ⟨hcz4_0, hcz4_1, hfz4_0, hfz4_1⟩ := cz2_ BK157.out) | (go_at_call 41; (with_reducible refine (impl_decimal.calls a0_0 t158 _ A2.out).mono ?_); rintro e w' ⟨rfl, ⟨nd, rfl⟩⟩; (try first | exact ⟨rfl, _, World.drewN_drewN _ _ _⟩ | exact ⟨rfl, _, Eq.trans (World.drewN_drewN _ _ _) (congrArg (World.drewN _) (Nat.add_assoc _ _ _))⟩))))
 go_loopg [3, 12] k (fun kq v3 v12 w' => ∃ (x3_1 : ByteArray) (x12_1 : Int), v3 = .string x3_1 ∧ v12 = .int .i64 x12_1 ∧ Aside0 (impl_treeText.l0 kq x3_1 l0_1 (l0_1.length : Int) x12_1 = some r) ∧ Aside0 (kq ≤ k) ∧ Aside0 (w'.heap[gb157]? = some (.cells #[.int .i64 a0_0, (.slice A0_1 l0_1.length c0_1)] 26 (0, 0))) ∧ Aside0 (Below w.heap.size w w'))
 case atStart => exact ⟨(t158), (0), rs_, rs_, H', ⟨Nat.le_refl _⟩, ⟨bk_ BK157.out⟩, ⟨bl1_ HB.out GE157.out⟩⟩
 case round =>
  clear H'
  try clear c2
  try clear p2
  try clear hcz4_0
  try clear hcz4_1
  try clear hfz4_0
  try clear hfz4_1
  obtain ⟨x3_1, x12_1, rfl, rfl, HA, HK1, BK157, HB⟩ := hrel
  cases gk with
  | zero => exact absurd HA.out (by simp [impl_treeText.l0])
  | succ k1 =>
   have H := HA.out
   clear HA
   simp only [impl_treeText.l0] at H
   by_cases c5 : x12_1 < (l0_1.length : Int)
   ·rw [if_pos c5] at H
    have c5b0 := decide_eq_true c5
    clear c5
    by_cases c6 : 0 ≤ x12_1
    rotate_left
    ·exact nope_ c6 H
    rw [if_pos c6] at H
    have c6b0 := decide_eq_true c6
    clear c6
    by_cases c7 : x12_1 < (l0_1.length : Int)
    rotate_left
    ·exact nope_ c7 H
    rw [if_pos c7] at H
    have c7b0 := decide_eq_true c7
    clear c7
    replace H := Option.bind_eq_some_iff.mp H
    obtain ⟨t161, A80, H⟩ := H
    replace H : (if 1 + t161.size ≤ 9223372036854775807 then (if ((⟨#[32]⟩ : ByteArray) ++ t161).size + 1 ≤ 9223372036854775807 then ((impl_decimal.f ((rd_T52 l0_1 x12_1).f1)).bind fun t162 => (if (((⟨#[32]⟩ : ByteArray) ++ t161) ++ (⟨#[45]⟩ : ByteArray)).size + t162.size ≤ 9223372036854775807 then (if ((((⟨#[32]⟩ : ByteArray) ++ t161) ++ (⟨#[45]⟩ : ByteArray)) ++ t162).size + 1 ≤ 9223372036854775807 then ((impl_decimal.f ((rd_T52 l0_1 x12_1).f2)).bind fun t163 => (if (((((⟨#[32]⟩ : ByteArray) ++ t161) ++ (⟨#[45]⟩ : ByteArray)) ++ t162) ++ (⟨#[58]⟩ : ByteArray)).size + t163.size ≤ 9223372036854775807 then (if x3_1.size + ((((((⟨#[32]⟩ : ByteArray) ++ t161) ++ (⟨#[45]⟩ : ByteArray)) ++ t162) ++ (⟨#[58]⟩ : ByteArray)) ++ t163).size ≤ 9223372036854775807 then (impl_treeText.l0 k1 (x3_1 ++ ((((((⟨#[32]⟩ : ByteArray) ++ t161) ++ (⟨#[45]⟩ : ByteArray)) ++ t162) ++ (⟨#[58]⟩ : ByteArray)) ++ t163)) l0_1 (l0_1.length : Int) (wrap64 (x12_1 + 1))) else (none)) else (none))) else (none)) else (none))) else (none)) else (none)) = some r := H
    have A8 := Aside0.mk A80
    clear A80
    by_cases c9 : 1 + t161.size ≤ 9223372036854775807
    rotate_left
    ·exact nope_ c9 H
    rw [if_pos c9] at H
    have c9b0 := eq_true c9
    have c9b1 := decide_eq_true c9
    try have c9b2 : (9223372036854775807 < 1 + t161.size) = False := eq_false (Nat.not_lt.2 c9)
    by_cases c10 : ((⟨#[32]⟩ : ByteArray) ++ t161).size + 1 ≤ 9223372036854775807
    rotate_left
    ·exact nope_ c10 H
    rw [if_pos c10] at H
    have c10b0 := eq_true c10
    have c10b1 := decide_eq_true c10
    try have c10b2 : (9223372036854775807 < ((⟨#[32]⟩ : ByteArray) ++ t161).size + 1) = False := eq_false (Nat.not_lt.2 c10)
    try (have c10b2s := c10b2; simp only [ByteArray.size_append, sz1_] at c10b2s)
    replace H := Option.bind_eq_some_iff.mp H
    obtain ⟨t162, A110, H⟩ := H
    replace H : (if (((⟨#[32]⟩ : ByteArray) ++ t161) ++ (⟨#[45]⟩ : ByteArray)).size + t162.size ≤ 9223372036854775807 then (if ((((⟨#[32]⟩ : ByteArray) ++ t161) ++ (⟨#[45]⟩ : ByteArray)) ++ t162).size + 1 ≤ 9223372036854775807 then ((impl_decimal.f ((rd_T52 l0_1 x12_1).f2)).bind fun t163 => (if (((((⟨#[32]⟩ : ByteArray) ++ t161) ++ (⟨#[45]⟩ : ByteArray)) ++ t162) ++ (⟨#[58]⟩ : ByteArray)).size + t163.size ≤ 9223372036854775807 then (if x3_1.size + ((((((⟨#[32]⟩ : ByteArray) ++ t161) ++ (⟨#[45]⟩ : ByteArray)) ++ t162) ++ (⟨#[58]⟩ : ByteArray)) ++ t163).size ≤ 9223372036854775807 then (impl_treeText.l0 k1 (x3_1 ++ ((((((⟨#[32]⟩ : ByteArray) ++ t161) ++ (⟨#[45]⟩ : ByteArray)) ++ t162) ++ (⟨#[58]⟩ : ByteArray)) ++ t163)) l0_1 (l0_1.length : Int) (wrap64 (x12_1 + 1))) else (none)) else (none))) else (none)) else (none)) = some r := H
    have A11 := Aside0.mk A110
    clear A110
    by_cases c12 : (((⟨#[32]⟩ : ByteArray) ++ t161) ++ (⟨#[45]⟩ : ByteArray)).size + t162.size ≤ 9223372036854775807
    rotate_left
    ·exact nope_ c12 H
    rw [if_pos c12] at H
    have c12b0 := eq_true c12
    have c12b1 := decide_eq_true c12
    try have c12b2 : (9223372036854775807 < (((⟨#[32]⟩ : ByteArray) ++ t161) ++ (⟨#[45]⟩ : ByteArray)).size + t162.size) = False := eq_false (Nat.not_lt.2 c12)
    try (have c12b2s := c12b2; simp only [ByteArray.size_append, sz1_] at c12b2s)
    by_cases c13 : ((((⟨#[32]⟩ : ByteArray) ++ t161) ++ (⟨#[45]⟩ : ByteArray)) ++ t162).size + 1 ≤ 9223372036854775807
    rotate_left
    ·exact nope_ c13 H
    rw [if_pos c13] at H
    have c13b0 := eq_true c13
    have c13b1 := decide_eq_true c13
    try have c13b2 : (9223372036854775807 < ((((⟨#[32]⟩ : ByteArray) ++ t161) ++ (⟨#[45]⟩ : ByteArray)) ++ t162).size + 1) = False := eq_false (Nat.not_lt.2 c13)
    try (have c13b2s := c13b2; simp only [ByteArray.size_append, sz1_] at c13b2s)
    replace H := Option.bind_eq_some_iff.mp H
    obtain ⟨t163, A140, H⟩ := H
    replace H : (if (((((⟨#[32]⟩ : ByteArray) ++ t161) ++ (⟨#[45]⟩ : ByteArray)) ++ t162) ++ (⟨#[58]⟩ : ByteArray)).size + t163.size ≤ 9223372036854775807 then (if x3_1.size + ((((((⟨#[32]⟩ : ByteArray) ++ t161) ++ (⟨#[45]⟩ : ByteArray)) ++ t162) ++ (⟨#[58]⟩ : ByteArray)) ++ t163).size ≤ 9223372036854775807 then (impl_treeText.l0 k1 (x3_1 ++ ((((((⟨#[32]⟩ : ByteArray) ++ t161) ++ (⟨#[45]⟩ : ByteArray)) ++ t162) ++ (⟨#[58]⟩ : ByteArray)) ++ t163)) l0_1 (l0_1.length : Int) (wrap64 (x12_1 + 1))) else (none)) else (none)) = some r := H
    have A14 := Aside0.mk A140
    clear A140
    by_cases c15 : (((((⟨#[32]⟩ : ByteArray) ++ t161) ++ (⟨#[45]⟩ : ByteArray)) ++ t162) ++ (⟨#[58]⟩ : ByteArray)).size + t163.size ≤ 9223372036854775807
    rotate_left
    ·exact nope_ c15 H
    rw [if_pos c15] at H
    have c15b0 := eq_true c15
    have c15b1 := decide_eq_true c15
    try have c15b2 : (9223372036854775807 < (((((⟨#[32]⟩ : ByteArray) ++ t161) ++ (⟨#[45]⟩ : ByteArray)) ++ t162) ++ (⟨#[58]⟩ : ByteArray)).size + t163.size) = False := eq_false (Nat.not_lt.2 c15)
    try (have c15b2s := c15b2; simp only [ByteArray.size_append, sz1_] at c15b2s)
    by_cases c16 : x3_1.size + ((((((⟨#[32]⟩ : ByteArray) ++ t161) ++ (⟨#[45]⟩ : ByteArray)) ++ t162) ++ (⟨#[58]⟩ : ByteArray)) ++ t163).size ≤ 9223372036854775807
    rotate_left
    ·exact nope_ c16 H
    rw [if_pos c16] at H
    have c16b0 := eq_true c16
    have c16b1 := decide_eq_true c16
    try have c16b2 : (9223372036854775807 < x3_1.size + ((((((⟨#[32]⟩ : ByteArray) ++ t161) ++ (⟨#[45]⟩ : ByteArray)) ++ t162) ++ (⟨#[58]⟩ : ByteArray)) ++ t163).size) = False := eq_false (Nat.not_lt.2 c16)
    try (have c16b2s := c16b2; simp only [ByteArray.size_append, sz1_] at c16b2s)
    have H' := Aside0.mk H
    clear H
    have p159 : 0 ≤ (x12_1 : Int) := od_
    have q159 : x12_1 < (l0_1.length : Int) := od_
    obtain ⟨ad159, e159, hx159_0, hx159_1, hx159_2⟩ := at_T52 HR0_1.out x12_1 p159 q159
    cases e159
    replace hx159_0 := (HB.out.cell (World.block_lt_of_cell? w _ hx159_0)).trans hx159_0
    replace hx159_1 := (HB.out.cell (World.block_lt_of_cell? w _ hx159_1)).trans hx159_1
    replace hx159_2 := (HB.out.cell (World.block_lt_of_cell? w _ hx159_2)).trans hx159_2
    replace p159 := eq_true p159
    replace q159 := eq_true q159
    go_wp2_with (first | ((with_reducible refine gate_dst (N := 5) rfl ?_); refine box_event ?hg (N := 5) ?hd (cs := #[.int .i64 0, .int .i64 0, .int .i64 0]) (t := 52) ?hr ?_; (case hd => rfl); (case hg => rfl); (case hr => first | (go_simp; done) | (go_simp; rfl)); intro gb160 hg w17 hbox hb; have n0_ := Aside0.mk (blk_below (g := gb157) (o := .cells #[.int .i64 a0_0, .slice (some ad159) l0_1.length c0_1] 26 (0, 0)) (bk_ BK157.out) hb); have n1_ := Aside0.mk (below_step (bl1_ HB.out GE157.out) hb); have n2_ := Aside0.mk (hbox); have n3_ := Aside0.mk ((by rw [hg]; exact (below_size (bl1_ HB.out GE157.out)) : w.heap.size ≤ gb160)); have n4_ := Aside0.mk ((by rw [hg]; exact (below_size (bl1_ HB.out GE157.out)) : w.heap.size ≤ gb160)); have n5_ := Aside0.mk ((by rw [hg]; exact Nat.ne_of_lt (blk_lt (bk_ BK157.out)) : gb157 ≠ gb160)); have n6_ := Aside0.mk ((by rw [hg]; exact Nat.ne_of_gt (blk_lt (bk_ BK157.out)) : gb160 ≠ gb157)); clear BK157; clear HB; have BK157 := n0_; have HB := n1_; have BK160 := n2_; have GW160 := n3_; have GE160 := n4_; have NB157_160 := n5_; have NB160_157 := n6_; clear n0_ n1_ n2_ n3_ n4_ n5_ n6_; clear hb hbox hg; have hnb18 := NB160_157.out; have hnc18 := NB157_160.out; obtain ⟨hcz19_0, hcz19_1, hcz19_2, hfz19_0, hfz19_1, hfz19_2⟩ := cz3_ BK160.out) | (go_at_call 41; (with_reducible refine (impl_decimal.calls ((rd_T52 l0_1 x12_1).f0) t161 _ A8.out).mono ?_); rintro e w' ⟨rfl, ⟨nd, rfl⟩⟩; (try first | exact ⟨rfl, _, World.drewN_drewN _ _ _⟩ | exact ⟨rfl, _, Eq.trans (World.drewN_drewN _ _ _) (congrArg (World.drewN _) (Nat.add_assoc _ _ _))⟩)) | (go_at_call 41; (with_reducible refine (impl_decimal.calls ((rd_T52 l0_1 x12_1).f1) t162 _ A11.out).mono ?_); rintro e w' ⟨rfl, ⟨nd, rfl⟩⟩; (try first | exact ⟨rfl, _, World.drewN_drewN _ _ _⟩ | exact ⟨rfl, _, Eq.trans (World.drewN_drewN _ _ _) (congrArg (World.drewN _) (Nat.add_assoc _ _ _))⟩)) | (go_at_call 41; (with_reducible refine (impl_decimal.calls ((rd_T52 l0_1 x12_1).f2) t163 _ A14.out).mono ?_); rintro e w' ⟨rfl, ⟨nd, rfl⟩⟩; (try first | exact ⟨rfl, _, World.drewN_drewN _ _ _⟩ | exact ⟨rfl, _, Eq.trans (World.drewN_drewN _ _ _) (congrArg (World.drewN _) (Nat.add_assoc _ _ _))⟩)))
    repeat (go_quiet (first | ((with_reducible refine gate_dst (N := 5) rfl ?_); refine box_event ?hg (N := 5) ?hd (cs := #[.int .i64 0, .int .i64 0, .int .i64 0]) (t := 52) ?hr ?_; (case hd => rfl); (case hg => rfl); (case hr => first | (go_simp; done) | (go_simp; rfl)); intro gb160 hg w17 hbox hb; have n0_ := Aside0.mk (blk_below (g := gb157) (o := .cells #[.int .i64 a0_0, .slice (some ad159) l0_1.length c0_1] 26 (0, 0)) (bk_ BK157.out) hb); have n1_ := Aside0.mk (below_step (bl1_ HB.out GE157.out) hb); have n2_ := Aside0.mk (hbox); have n3_ := Aside0.mk ((by rw [hg]; exact (below_size (bl1_ HB.out GE157.out)) : w.heap.size ≤ gb160)); have n4_ := Aside0.mk ((by rw [hg]; exact (below_size (bl1_ HB.out GE157.out)) : w.heap.size ≤ gb160)); have n5_ := Aside0.mk ((by rw [hg]; exact Nat.ne_of_lt (blk_lt (bk_ BK157.out)) : gb157 ≠ gb160)); have n6_ := Aside0.mk ((by rw [hg]; exact Nat.ne_of_gt (blk_lt (bk_ BK157.out)) : gb160 ≠ gb157)); clear BK157; clear HB; have BK157 := n0_; have HB := n1_; have BK160 := n2_; have GW160 := n3_; have GE160 := n4_; have NB157_160 := n5_; have NB160_157 := n6_; clear n0_ n1_ n2_ n3_ n4_ n5_ n6_; clear hb hbox hg; have hnb18 := NB160_157.out; have hnc18 := NB157_160.out; obtain ⟨hcz19_0, hcz19_1, hcz19_2, hfz19_0, hfz19_1, hfz19_2⟩ := cz3_ BK160.out) | (go_at_call 41; (with_reducible refine (impl_decimal.calls ((rd_T52 l0_1 x12_1).f0) t161 _ A8.out).mono ?_); rintro e w' ⟨rfl, ⟨nd, rfl⟩⟩; (try first | exact ⟨rfl, _, World.drewN_drewN _ _ _⟩ | exact ⟨rfl, _, Eq.trans (World.drewN_drewN _ _ _) (congrArg (World.drewN _) (Nat.add_assoc _ _ _))⟩)) | (go_at_call 41; (with_reducible refine (impl_decimal.calls ((rd_T52 l0_1 x12_1).f1) t162 _ A11.out).mono ?_); rintro e w' ⟨rfl, ⟨nd, rfl⟩⟩; (try first | exact ⟨rfl, _, World.drewN_drewN _ _ _⟩ | exact ⟨rfl, _, Eq.trans (World.drewN_drewN _ _ _) (congrArg (World.drewN _) (Nat.add_assoc _ _ _))⟩)) | (go_at_call 41; (with_reducible refine (impl_decimal.calls ((rd_T52 l0_1 x12_1).f2) t163 _ A14.out).mono ?_); rintro e w' ⟨rfl, ⟨nd, rfl⟩⟩; (try first | exact ⟨rfl, _, World.drewN_drewN _ _ _⟩ | exact ⟨rfl, _, Eq.trans (World.drewN_drewN _ _ _) (congrArg (World.drewN _) (Nat.add_assoc _ _ _))⟩))); try go_wp2_with (first | ((with_reducible refine gate_dst (N := 5) rfl ?_); refine box_event ?hg (N := 5) ?hd (cs := #[.int .i64 0, .int .i64 0, .int .i64 0]) (t := 52) ?hr ?_; (case hd => rfl); (case hg => rfl); (case hr => first | (go_simp; done) | (go_simp; rfl)); intro gb160 hg w17 hbox hb; have n0_ := Aside0.mk (blk_below (g := gb157) (o := .cells #[.int .i64 a0_0, .slice (some ad159) l0_1.length c0_1] 26 (0, 0)) (bk_ BK157.out) hb); have n1_ := Aside0.mk (below_step (bl1_ HB.out GE157.out) hb); have n2_ := Aside0.mk (hbox); have n3_ := Aside0.mk ((by rw [hg]; exact (below_size (bl1_ HB.out GE157.out)) : w.heap.size ≤ gb160)); have n4_ := Aside0.mk ((by rw [hg]; exact (below_size (bl1_ HB.out GE157.out)) : w.heap.size ≤ gb160)); have n5_ := Aside0.mk ((by rw [hg]; exact Nat.ne_of_lt (blk_lt (bk_ BK157.out)) : gb157 ≠ gb160)); have n6_ := Aside0.mk ((by rw [hg]; exact Nat.ne_of_gt (blk_lt (bk_ BK157.out)) : gb160 ≠ gb157)); clear BK157; clear HB; have BK157 := n0_; have HB := n1_; have BK160 := n2_; have GW160 := n3_; have GE160 := n4_; have NB157_160 := n5_; have NB160_157 := n6_; clear n0_ n1_ n2_ n3_ n4_ n5_ n6_; clear hb hbox hg; have hnb18 := NB160_157.out; have hnc18 := NB157_160.out; obtain ⟨hcz19_0, hcz19_1, hcz19_2, hfz19_0, hfz19_1, hfz19_2⟩ := cz3_ BK160.out) | (go_at_call 41; (with_reducible refine (impl_decimal.calls ((rd_T52 l0_1 x12_1).f0) t161 _ A8.out).mono ?_); rintro e w' ⟨rfl, ⟨nd, rfl⟩⟩; (try first | exact ⟨rfl, _, World.drewN_drewN _ _ _⟩ | exact ⟨rfl, _, Eq.trans (World.drewN_drewN _ _ _) (congrArg (World.drewN _) (Nat.add_assoc _ _ _))⟩)) | (go_at_call 41; (with_reducible refine (impl_decimal.calls ((rd_T52 l0_1 x12_1).f1) t162 _ A11.out).mono ?_); rintro e w' ⟨rfl, ⟨nd, rfl⟩⟩; (try first | exact ⟨rfl, _, World.drewN_drewN _ _ _⟩ | exact ⟨rfl, _, Eq.trans (World.drewN_drewN _ _ _) (congrArg (World.drewN _) (Nat.add_assoc _ _ _))⟩)) | (go_at_call 41; (with_reducible refine (impl_decimal.calls ((rd_T52 l0_1 x12_1).f2) t163 _ A14.out).mono ?_); rintro e w' ⟨rfl, ⟨nd, rfl⟩⟩; (try first | exact ⟨rfl, _, World.drewN_drewN _ _ _⟩ | exact ⟨rfl, _, Eq.trans (World.drewN_drewN _ _ _) (congrArg (World.drewN _) (Nat.add_assoc _ _ _))⟩))))
    go_roundg k1
    case measure => have := HK1.out; omega
    case rel => exact ⟨(x3_1 ++ ((((((⟨#[32]⟩ : ByteArray) ++ t161) ++ (⟨#[45]⟩ : ByteArray)) ++ t162) ++ (⟨#[58]⟩ : ByteArray)) ++ t163)), (wrap64 (x12_1 + 1)), rs_, rs_, H', ⟨by have := HK1.out; omega⟩, ⟨by (with_reducible repeat (first | refine blk_drewN ?_ _ | refine blk_drew ?_ | refine blk_alloc ?_ _)); refine blk_far ?_ NB157_160.out _; (with_reducible repeat (first | refine blk_drewN ?_ _ | refine blk_drew ?_ | refine blk_alloc ?_ _)); refine blk_far ?_ NB157_160.out _; (with_reducible repeat (first | refine blk_drewN ?_ _ | refine blk_drew ?_ | refine blk_alloc ?_ _)); refine blk_far ?_ NB157_160.out _; (with_reducible repeat (first | refine blk_drewN ?_ _ | refine blk_drew ?_ | refine blk_alloc ?_ _)); exact BK157.out⟩, ⟨bl2_ HB.out GE157.out GE160.out⟩⟩
   ·rw [if_neg c5] at H
    have c5b0 := decide_eq_false c5
    clear c5
    obtain rfl := Option.some.inj H
    go_wp2
    repeat (go_quiet (fail); try go_wp2)
    go_ret
    exact ⟨re_, bl1_ HB.out GE157.out⟩

/-! ### impl_ReadTree: function 7 -/
def impl_ReadTree.l0 : Nat → ByteArray → List ByteArray → List ByteArray → Int → Int → Int → List (S52) → Option (Int × (List (S52)) × Bool)
 | 0, _, _, _, _, _, _, _ => none
 | k + 1, x0, x16, x26, x27, x28, x169000, x169001 => if x28 < x27 then (if 0 ≤ x28 then (if x28 < (x26.length : Int) then ((strings_Cut.f (rdOf ByteArray.empty x26 x28) (⟨#[58]⟩ : ByteArray)).bind fun bt177 => ((strings_Cut.f bt177.1 (⟨#[45]⟩ : ByteArray)).bind fun bt180 => ((impl_readNumber.f bt180.1).bind fun bt184 => ((impl_readNumber.f bt180.2.1).bind fun bt186 => ((impl_readNumber.f bt177.2.1).bind fun bt188 => (if x169001.length < 5864062014805 then (impl_ReadTree.l0 k x0 x16 x26 x27 (wrap64 (x28 + 1)) x169000 (x169001 ++ [(⟨bt184.1, bt186.1, bt188.1⟩ : S52)])) else (none))))))) else (none)) else (none)) else ((impl_ValidTree.f k x169000 x169001).bind fun t193 => (if t193 = true then ((impl_treeText.f k x169000 x169001).bind fun t194 => (if t194.toList = x0.toList then (some (x169000, x169001, true)) else (some (0, ([] : List (S52)), false)))) else (some (0, ([] : List (S52)), false))))
def impl_ReadTree.f (k : Nat) (a0 : ByteArray) : Option (Int × (List (S52)) × Bool) := (strings_Split.f a0 (⟨#[32]⟩ : ByteArray)).bind fun t165 => (if 0 < (t165.length : Int) then ((impl_readNumber.f (rdOf ByteArray.empty t165 0)).bind fun bt170 => (if 1 ≤ (t165.length : Int) then ((some (t165.drop 1 : List ByteArray)).bind fun y172 => (impl_ReadTree.l0 k a0 t165 y172 (y172.length : Int) 0 bt170.1 ([] : List (S52)))) else (none))) else (none))
theorem impl_ReadTree.mono_l : ∀ k, (∀ y0 y1 y2 y3 y4 y5 y6, LeO (impl_ReadTree.l0 k y0 y1 y2 y3 y4 y5 y6) (impl_ReadTree.l0 (k + 1) y0 y1 y2 y3 y4 y5 y6))
 | 0 => fun _ _ _ _ _ _ _ r h => by simp [impl_ReadTree.l0] at h
 | k + 1 => by
  have ih0 := impl_ReadTree.mono_l k
  ·intro y0 y1 y2 y3 y4 y5 y6
   unfold impl_ReadTree.l0
   repeat' first
   | (with_reducible exact ih0 _ _ _ _ _ _ _)
   | (with_reducible exact impl_ValidTree.mono _ _ _)
   | (with_reducible exact impl_treeText.mono _ _ _)
   | (with_reducible exact LeO.refl _)
   | (with_reducible exact LeO.none _)
   | (with_reducible refine LeO.ite ?_ ?_)
   | (with_reducible refine LeO.bind ?_ (fun _ => ?_))
   | exact impl_ValidTree.mono _ _ _
   | exact impl_treeText.mono _ _ _
   | exact LeO.none _
   | refine LeO.ite ?_ ?_
   | refine LeO.bind ?_ (fun _ => ?_)
theorem impl_ReadTree.mono : ∀ a0 k, LeO (impl_ReadTree.f k a0) (impl_ReadTree.f (k + 1) a0) := by
 intro a0 k
 have ih0 := impl_ReadTree.mono_l k
 unfold impl_ReadTree.f
 repeat' first
   | (with_reducible exact ih0 _ _ _ _ _ _ _)
   | (with_reducible exact impl_ValidTree.mono _ _ _)
   | (with_reducible exact impl_treeText.mono _ _ _)
   | (with_reducible exact LeO.refl _)
   | (with_reducible exact LeO.none _)
   | (with_reducible refine LeO.ite ?_ ?_)
   | (with_reducible refine LeO.bind ?_ (fun _ => ?_))
   | exact impl_ValidTree.mono _ _ _
   | exact impl_treeText.mono _ _ _
   | exact LeO.none _
   | refine LeO.ite ?_ ?_
   | refine LeO.bind ?_ (fun _ => ?_)
set_option maxHeartbeats 8000000 in
set_option maxRecDepth 100000 in
theorem impl_ReadTree.calls (k : Nat) (a0 : ByteArray) (r1 : Int) (r2 : List (S52)) (r3 : Bool) (w : World) (hL : LaidW w) (h : impl_ReadTree.f k a0 = some (r1, r2, r3)) :
  Calls Tryd.prog 7 #[.string a0] w fun e w' => ∃ v1_ : Value, e = .returned (.tuple #[.agg #[.int .i64 r1, v1_], .bool r3]) ∧ Kd.R k52 52 w' w.heap.size (fun _ => True) v1_ r2 ∧ Below w.heap.size w w' := by
 have hu26 := Tryd.underlying26
 have hu52 := Tryd.underlying52
 have HLW := Aside0.mk hL
 clear hL
 have HB := Aside0.mk (Below.refl w.heap.size w)
 have H : ((strings_Split.f a0 (⟨#[32]⟩ : ByteArray)).bind fun t165 => (if 0 < (t165.length : Int) then ((impl_readNumber.f (rdOf ByteArray.empty t165 0)).bind fun bt170 => (if 1 ≤ (t165.length : Int) then ((some (t165.drop 1 : List ByteArray)).bind fun y172 => (impl_ReadTree.l0 k a0 t165 y172 (y172.length : Int) 0 bt170.1 ([] : List (S52)))) else (none))) else (none))) = some (r1, r2, r3) := h
 clear h
 replace H := Option.bind_eq_some_iff.mp H
 obtain ⟨t165, A20, H⟩ := H
 replace H : (if 0 < (t165.length : Int) then ((impl_readNumber.f (rdOf ByteArray.empty t165 0)).bind fun bt170 => (if 1 ≤ (t165.length : Int) then ((some (t165.drop 1 : List ByteArray)).bind fun y172 => (impl_ReadTree.l0 k a0 t165 y172 (y172.length : Int) 0 bt170.1 ([] : List (S52)))) else (none))) else (none)) = some (r1, r2, r3) := H
 have A2 := Aside0.mk A20
 clear A20
 by_cases c3 : 0 < (t165.length : Int)
 rotate_left
 ·exact nope_ c3 H
 rw [if_pos c3] at H
 have c3b0 := decide_eq_true c3
 have c3b1 : decide (0 < t165.length) = true := decide_eq_true (by omega)
 clear c3
 replace H := Option.bind_eq_some_iff.mp H
 obtain ⟨⟨t170, t171⟩, A40, H⟩ := H
 replace H : (if 1 ≤ (t165.length : Int) then ((some (t165.drop 1 : List ByteArray)).bind fun y172 => (impl_ReadTree.l0 k a0 t165 y172 (y172.length : Int) 0 t170 ([] : List (S52)))) else (none)) = some (r1, r2, r3) := H
 have A4 := Aside0.mk A40
 clear A40
 by_cases c5 : 1 ≤ (t165.length : Int)
 rotate_left
 ·exact nope_ c5 H
 rw [if_pos c5] at H
 have c5b0 := eq_true c5
 have c5b1 := decide_eq_true c5
 clear c5
 obtain ⟨y172, hy172⟩ : ∃ y_ : List ByteArray, y_ = (t165.drop 1) := ⟨_, rfl⟩
 replace H : (impl_ReadTree.l0 k a0 t165 y172 (y172.length : Int) 0 t170 ([] : List (S52))) = some (r1, r2, r3) := yh_ H hy172
 have Ny172 := Aside0.mk hy172
 clear hy172
 have H' := Aside0.mk H
 clear H
 go_enter Tryd.func7, Tryd.ntmps7
 go_wp2_with (first | ((with_reducible refine gate_dst (N := 2) rfl ?_); refine box_event ?hg (N := 2) ?hd (cs := #[.int .i64 0, .slice none 0 0]) (t := 26) ?hr ?_; (case hd => rfl); (case hg => rfl); (case hr => first | (go_simp; done) | (go_simp; rfl)); intro gb164 hg w6 hbox hb; have n0_ := Aside0.mk (below_step (bl0_ HB.out) hb); have n1_ := Aside0.mk (hbox); have n2_ := Aside0.mk ((by rw [hg]; exact (below_size (bl0_ HB.out)) : w.heap.size ≤ gb164)); have n3_ := Aside0.mk ((by rw [hg]; exact (below_size (bl0_ HB.out)) : w.heap.size ≤ gb164)); clear HB; have HB := n0_; have BK164 := n1_; have GW164 := n2_; have GE164 := n3_; clear n0_ n1_ n2_ n3_; clear hb hbox hg) | ((with_reducible refine gate_callee (f := 21) rfl ?_); refine goesL_ (some 16) rfl rfl Tryd.func21 (by kernel_rfl) rfl #[.string a0, .string (⟨#[32]⟩ : ByteArray)] rfl mp_ ?_; (with_reducible refine (strings_Split.calls a0 (⟨#[32]⟩ : ByteArray) t165 _ ?side1 A2.out).mono ?_); (case side1 => refine LaidW.below HLW.out ?_; repeat (first | (with_reducible first | exact HB.out | apply below_alloc | apply pw_below_drewN | apply below_drew1 | refine below_set ?_ GE164.out) | exact HB.out)); rintro e w7 ⟨v166, rfl, ho0, hb⟩; refine ⟨_, rfl, ?_⟩; have n0_ := Aside0.mk (Kd.R_lower ho0 (below_size (bl1_ HB.out GE164.out))); have n1_ := Aside0.mk (blk_below (g := gb164) (o := .cells #[.int .i64 0, .slice none 0 0] 26 (0, 0)) (bk_ BK164.out) hb); have n2_ := Aside0.mk (below_step (bl1_ HB.out GE164.out) hb); clear BK164; clear HB; have HO167 := n0_; have BK164 := n1_; have HB := n2_; clear n0_ n1_ n2_; (try clear hb); (try clear hb2); (try clear hk); (try clear hi); (try clear ho0)) | ((with_reducible refine gate_dst (N := 5) rfl ?_); refine box_event ?hg (N := 5) ?hd (cs := #[.int .i64 0, .slice none 0 0]) (t := 26) ?hr ?_; (case hd => rfl); (case hg => rfl); (case hr => first | (go_simp; done) | (go_simp; rfl)); intro gb168 hg w8 hbox hb; have n0_ := Aside0.mk (Kd.R_below (ra_ HO167.out) hb); have n1_ := Aside0.mk (blk_below (g := gb164) (o := .cells #[.int .i64 0, .slice none 0 0] 26 (0, 0)) (bk_ BK164.out) hb); have n2_ := Aside0.mk (below_step (bl1_ HB.out GE164.out) hb); have n3_ := Aside0.mk (hbox); have n4_ := Aside0.mk ((by rw [hg]; exact (below_size (bl1_ HB.out GE164.out)) : w.heap.size ≤ gb168)); have n5_ := Aside0.mk ((by rw [hg]; exact (below_size (bl1_ HB.out GE164.out)) : w.heap.size ≤ gb168)); have n6_ := Aside0.mk ((by rw [hg]; exact Nat.ne_of_lt (blk_lt (bk_ BK164.out)) : gb164 ≠ gb168)); have n7_ := Aside0.mk ((by rw [hg]; exact Nat.ne_of_gt (blk_lt (bk_ BK164.out)) : gb168 ≠ gb164)); clear HO167; clear BK164; clear HB; have HO167 := n0_; have BK164 := n1_; have HB := n2_; have BK168 := n3_; have GW168 := n4_; have GE168 := n5_; have NB164_168 := n6_; have NB168_164 := n7_; clear n0_ n1_ n2_ n3_ n4_ n5_ n6_ n7_; clear hb hbox hg; obtain ⟨Ao9, co9, eo9⟩ := Kd.R_slice HO167.out; subst eo9; have p169 : 0 ≤ (0 : Int) := (by omega); have q169 : 0 < (t165.length : Int) := od_; obtain ⟨ad169, e169, hx169_0⟩ := Kd.at_string (Kd.R_reads' HO167.out).2.2 0 p169 q169; cases e169; have qi169 : (0 < t165.length) = True := eq_true (by omega); (try rw [show ((0 : Int)).toNat = 0 from rfl] at hx169_0); (try rw [Addr.add_zero'] at hx169_0); replace p169 := eq_true p169; replace q169 := eq_true q169) | ((with_reducible refine gate_callee (f := 22) rfl ?_); refine goesL_ (some 21) rfl rfl Tryd.func22 (by kernel_rfl) rfl #[.string (rdOf ByteArray.empty t165 0)] rfl mp_ ?_; (with_reducible refine (impl_readNumber.calls (rdOf ByteArray.empty t165 0) t170 t171 _ ?side1 A4.out).mono ?_); (case side1 => refine LaidW.below HLW.out ?_; repeat (first | (with_reducible first | exact HB.out | apply below_alloc | apply pw_below_drewN | apply below_drew1 | refine below_set ?_ GE164.out | refine below_set ?_ GE168.out) | exact HB.out)); rintro e w10 ⟨rfl, hb⟩; refine ⟨_, rfl, ?_⟩; have n0_ := Aside0.mk (Kd.R_below (ra_ HO167.out) hb); have n1_ := Aside0.mk (blk_below (g := gb164) (o := .cells #[.int .i64 0, .slice none 0 0] 26 (0, 0)) (bk_ BK164.out) hb); have n2_ := Aside0.mk (blk_below (g := gb168) (o := .cells #[.int .i64 0, .slice none 0 0] 26 (0, 0)) (bk_ BK168.out) hb); have n3_ := Aside0.mk (below_step (bl2_ HB.out GE164.out GE168.out) hb); clear HO167; clear BK164; clear BK168; clear HB; have HO167 := n0_; have BK164 := n1_; have BK168 := n2_; have HB := n3_; clear n0_ n1_ n2_ n3_; (try clear hb); (try clear hb2); (try clear hk); (try clear hi); have hnb11 := NB168_164.out; have hnc11 := NB164_168.out; obtain ⟨hcz12_0, hcz12_1, hfz12_0, hfz12_1⟩ := cz2_ BK168.out) | ((with_reducible refine gate_store (t := 2) (p := 24) rfl ?_); refine store_event (t := 2) (p := 24) (v := ?vo_w13) (w1 := (w10.setCell ⟨gb168, 0, none⟩ (.int .i64 t170))) ?hg ?ho ?hn ?hr ?_; (case ho => rfl); (case hg => rfl); (case hn => rfl); (case hr => first | (go_simp; done) | (go_simp; rfl)); intro w13 hw; have n0_ : Aside0 (Kd.R Kd.string 9 w13 w.heap.size (fun _ => True) (.slice (some ad169) t165.length co9) t165) := ⟨(by rw [hw]; exact (by (with_reducible repeat (first | apply Kd.R_alloc | apply Kd.R_drewN | apply Kd.R_drew)); exact Kd.R_mono (Kd.R_far (p := ⟨gb168, 0, none⟩) (Kd.R_types HO167.out BK168.out (by decide)) (fun _ hk => hk.2) (.int .i64 t170)) (fun _ hk => trivial)))⟩; have n1_ : Aside0 (w13.heap[gb164]? = some (.cells #[.int .i64 0, .slice none 0 0] 26 (0, 0))) := ⟨(by rw [hw]; exact (by (with_reducible repeat (first | refine blk_drewN ?_ _ | refine blk_drew ?_ | refine blk_alloc ?_ _)); refine blk_far ?_ NB164_168.out _; (with_reducible repeat (first | refine blk_drewN ?_ _ | refine blk_drew ?_ | refine blk_alloc ?_ _)); exact BK164.out))⟩; have n2_ : Aside0 (w13.heap[gb168]? = some (.cells #[.int .i64 t170, .slice none 0 0] 26 (0, 0))) := ⟨(by rw [hw]; exact (by (with_reducible repeat (first | refine blk_drewN ?_ _ | refine blk_drew ?_ | refine blk_alloc ?_ _)); refine blk_put (cs := #[.int .i64 0, .slice none 0 0]) ?_ 0 _ rfl; (with_reducible repeat (first | refine blk_drewN ?_ _ | refine blk_drew ?_ | refine blk_alloc ?_ _)); exact BK168.out))⟩; have n3_ : Aside0 (Below w.heap.size w w13) := ⟨(by rw [hw]; exact (bl2_ HB.out GE164.out GE168.out))⟩; clear hw; clear HO167; clear BK164; clear BK168; clear HB; have HO167 := n0_; have BK164 := n1_; have BK168 := n2_; have HB := n3_; clear n0_ n1_ n2_ n3_; have q14 : (1 : Int) ≤ ((t165.length : Int) : Int) := od_; obtain ⟨i014, hi014, _, hsz14, _⟩ := info_parts info9; have hroom14 : t165.length ≤ co9 := (Kd.R_reads' HO167.out).2.1; have hC14 : Kd.C Kd.string _ (some ad169) t165.length t165 := (Kd.R_reads' HO167.out).2.2; have hcut14 := cut_from (P := Tryd.prog) 45 9 .i64 Tryd.underlying45 hi014 1 hsz14 (some ad169) t165.length co9 1 (by omega) q14; have hr14 := Kd.C_drop (m := (1 : Int).toNat) (c := co9) hC14 (by omega) hroom14; obtain ⟨A14, hA14⟩ : ∃ A1, A1 = (if co9 = (1 : Int).toNat then (some ad169) else ((some ad169) : Option Addr).map (·.add ((1 : Int).toNat * 1))) := ⟨_, rfl⟩; obtain ⟨c14, hc14⟩ : ∃ c1, c1 = co9 - (1 : Int).toNat := ⟨_, rfl⟩; have hy14 : y172.length = t165.length - (1 : Int).toNat := (by rw [Ny172.out, List.length_drop] <;> omega); rw [show (t165).drop (1 : Int).toNat = y172 from Ny172.out.symm] at hr14; replace hr14 : Kd.C Kd.string _ A14 y172.length y172 := (by rw [hA14]; exact hr14); rw [← hy14, ← hA14, ← hc14] at hcut14; have HR175 := Aside0.mk hr14; have HC175 := Aside0.mk (show y172.length ≤ c14 from by rw [hy14, hc14]; exact Nat.sub_le_sub_right hroom14 _); clear hr14 hC14 hroom14 hi014 hsz14 hc14; have KY14 := Aside0.mk hy14; have KA14 := Aside0.mk hA14; clear hy14 hA14; have KL14 := Aside0.mk (show 1 ≤ t165.length from by omega); replace q14 := eq_true q14))
 go_loopg [28] k (fun kq v28 w' => ∃ (x28_1 : Int) (x169001_1 : List (S52)) (u169001 : Value), v28 = .int .i64 x28_1 ∧ Aside0 (impl_ReadTree.l0 kq a0 t165 y172 (y172.length : Int) x28_1 t170 x169001_1 = some (r1, r2, r3)) ∧ Aside0 (kq ≤ k) ∧ Aside0 (Kd.R Kd.string 9 w' w.heap.size (fun _ => True) (.slice (some ad169) t165.length co9) t165) ∧ Aside0 (Kd.R k52 52 w' w.heap.size (fun _ => True) u169001 x169001_1) ∧ Aside0 (w'.heap[gb164]? = some (.cells #[.int .i64 0, (.slice none 0 0)] 26 (0, 0))) ∧ Aside0 (w'.heap[gb168]? = some (.cells #[.int .i64 t170, u169001] 26 (0, 0))) ∧ Aside0 (Kd.C Kd.string w' A14 y172.length y172) ∧ Aside0 (Below w.heap.size w w'))
 case atStart => exact ⟨(0), (([] : List (S52))), (.slice none 0 0), rs_, H', ⟨Nat.le_refl _⟩, ⟨ra_ HO167.out⟩, ⟨by first | exact Kd.R_nil _ _ _ _ _ | exact Kd.N_nil _ _ _ _ _ | exact Kd.V_nil _ _ _ _ _ | exact Kd.Q_nil _ _ _ _ _ | exact Kd.S_nil _ _ _ _ _⟩, ⟨bk_ BK164.out⟩, ⟨bk_ BK168.out⟩, ⟨by repeat (first | (with_reducible exact HR175.out) | (with_reducible refine Kd.C_alloc ?_ _) | (with_reducible refine Kd.C_drewN ?_ _) | (with_reducible refine Kd.C_drew ?_) | exact HR175.out)⟩, ⟨bl2_ HB.out GE164.out GE168.out⟩⟩
 case round =>
  clear H'
  try clear c1
  try clear p1
  try clear q1
  try clear hx1
  try clear qi1
  try clear c2
  try clear p2
  try clear c3
  try clear c3b0
  try clear c3b1
  try clear c5
  try clear c5b0
  try clear c5b1
  try clear c7
  try clear c11
  try clear c14
  try clear q14
  try clear hcz12_0
  try clear hcz12_1
  try clear hfz12_0
  try clear hfz12_1
  try clear hx169_0
  try clear p169
  try clear q14
  try clear q169
  obtain ⟨x28_1, x169001_1, u169001, rfl, HA, HK1, HO_16, HO_169001, BK164, BK168, HR175, HB⟩ := hrel
  cases gk with
  | zero => exact absurd HA.out (by simp [impl_ReadTree.l0])
  | succ k1 =>
   have H := HA.out
   clear HA
   simp only [impl_ReadTree.l0] at H
   by_cases c15 : x28_1 < (y172.length : Int)
   ·rw [if_pos c15] at H
    have c15b0 := decide_eq_true c15
    clear c15
    by_cases c16 : 0 ≤ x28_1
    rotate_left
    ·exact nope_ c16 H
    rw [if_pos c16] at H
    have c16b0 := decide_eq_true c16
    clear c16
    by_cases c17 : x28_1 < (y172.length : Int)
    rotate_left
    ·exact nope_ c17 H
    rw [if_pos c17] at H
    have c17b0 := decide_eq_true c17
    clear c17
    replace H := Option.bind_eq_some_iff.mp H
    obtain ⟨⟨t177, t178, t179⟩, A180, H⟩ := H
    replace H : ((strings_Cut.f t177 (⟨#[45]⟩ : ByteArray)).bind fun bt180 => ((impl_readNumber.f bt180.1).bind fun bt184 => ((impl_readNumber.f bt180.2.1).bind fun bt186 => ((impl_readNumber.f t178).bind fun bt188 => (if x169001_1.length < 5864062014805 then (impl_ReadTree.l0 k1 a0 t165 y172 (y172.length : Int) (wrap64 (x28_1 + 1)) t170 (x169001_1 ++ [(⟨bt184.1, bt186.1, bt188.1⟩ : S52)])) else (none)))))) = some (r1, r2, r3) := H
    have A18 := Aside0.mk A180
    clear A180
    replace H := Option.bind_eq_some_iff.mp H
    obtain ⟨⟨t180, t181, t182⟩, A190, H⟩ := H
    replace H : ((impl_readNumber.f t180).bind fun bt184 => ((impl_readNumber.f t181).bind fun bt186 => ((impl_readNumber.f t178).bind fun bt188 => (if x169001_1.length < 5864062014805 then (impl_ReadTree.l0 k1 a0 t165 y172 (y172.length : Int) (wrap64 (x28_1 + 1)) t170 (x169001_1 ++ [(⟨bt184.1, bt186.1, bt188.1⟩ : S52)])) else (none))))) = some (r1, r2, r3) := H
    have A19 := Aside0.mk A190
    clear A190
    replace H := Option.bind_eq_some_iff.mp H
    obtain ⟨⟨t184, t185⟩, A200, H⟩ := H
    replace H : ((impl_readNumber.f t181).bind fun bt186 => ((impl_readNumber.f t178).bind fun bt188 => (if x169001_1.length < 5864062014805 then (impl_ReadTree.l0 k1 a0 t165 y172 (y172.length : Int) (wrap64 (x28_1 + 1)) t170 (x169001_1 ++ [(⟨t184, bt186.1, bt188.1⟩ : S52)])) else (none)))) = some (r1, r2, r3) := H
    have A20 := Aside0.mk A200
    clear A200
    replace H := Option.bind_eq_some_iff.mp H
    obtain ⟨⟨t186, t187⟩, A210, H⟩ := H
    replace H : ((impl_readNumber.f t178).bind fun bt188 => (if x169001_1.length < 5864062014805 then (impl_ReadTree.l0 k1 a0 t165 y172 (y172.length : Int) (wrap64 (x28_1 + 1)) t170 (x169001_1 ++ [(⟨t184, t186, bt188.1⟩ : S52)])) else (none))) = some (r1, r2, r3) := H
    have A21 := Aside0.mk A210
    clear A210
    replace H := Option.bind_eq_some_iff.mp H
    obtain ⟨⟨t188, t189⟩, A220, H⟩ := H
    replace H : (if x169001_1.length < 5864062014805 then (impl_ReadTree.l0 k1 a0 t165 y172 (y172.length : Int) (wrap64 (x28_1 + 1)) t170 (x169001_1 ++ [(⟨t184, t186, t188⟩ : S52)])) else (none)) = some (r1, r2, r3) := H
    have A22 := Aside0.mk A220
    clear A220
    by_cases c23 : x169001_1.length < 5864062014805
    rotate_left
    ·exact nope_ c23 H
    rw [if_pos c23] at H
    have LMc23 := Aside0.mk c23
    clear c23
    obtain ⟨y190, hy190⟩ : ∃ y_ : List (S52), y_ = (x169001_1 ++ [(⟨t184, t186, t188⟩ : S52)]) := ⟨_, rfl⟩
    replace H : (impl_ReadTree.l0 k1 a0 t165 y172 (y172.length : Int) (wrap64 (x28_1 + 1)) t170 y190) = some (r1, r2, r3) := yh_ H hy190
    have Ny190 := Aside0.mk hy190
    clear hy190
    have H' := Aside0.mk H
    clear H
    have p176 : 0 ≤ (x28_1 : Int) := od_
    have q176 : x28_1 < (y172.length : Int) := od_
    obtain ⟨ad176, e176, hx176_0⟩ := Kd.at_string HR175.out x28_1 p176 q176
    cases e176
    replace p176 := eq_true p176
    replace q176 := eq_true q176
    go_wp2_with (first | ((with_reducible refine gate_callee (f := 23) rfl ?_); refine goesL_ (some 34) rfl rfl Tryd.func23 (by kernel_rfl) rfl #[.string (rdOf ByteArray.empty y172 x28_1), .string (⟨#[58]⟩ : ByteArray)] rfl mp_ ?_; (with_reducible refine (strings_Cut.calls (rdOf ByteArray.empty y172 x28_1) (⟨#[58]⟩ : ByteArray) t177 t178 t179 _ ?side1 A18.out).mono ?_); (case side1 => refine LaidW.below HLW.out ?_; repeat (first | (with_reducible first | exact HB.out | apply below_alloc | apply pw_below_drewN | apply below_drew1 | refine below_set ?_ GE164.out | refine below_set ?_ GE168.out) | exact HB.out)); rintro e w' ⟨rfl, ⟨nd, rfl⟩⟩; refine ⟨_, rfl, ?_⟩; (try (rw [drewN_self wr]; generalize hq_ : World.drewN wr _ = wr; have n0_ : Aside0 (Kd.R Kd.string 9 wr w.heap.size (fun k_ => True) (.slice (some ad169) t165.length co9) t165) := ⟨by rw [← hq_]; exact (ra_ HO_16.out)⟩; have n1_ : Aside0 (Kd.R k52 52 wr w.heap.size (fun k_ => True) u169001 x169001_1) := ⟨by rw [← hq_]; exact (ra_ HO_169001.out)⟩; have n2_ : Aside0 (wr.heap[gb164]? = some (.cells #[.int .i64 0, .slice none 0 0] 26 (0, 0))) := ⟨by rw [← hq_]; exact (bk_ BK164.out)⟩; have n3_ : Aside0 (wr.heap[gb168]? = some (.cells #[.int .i64 t170, u169001] 26 (0, 0))) := ⟨by rw [← hq_]; exact (bk_ BK168.out)⟩; have n4_ : Aside0 (Below w.heap.size w wr) := ⟨by rw [← hq_]; exact (bl2_ HB.out GE164.out GE168.out)⟩; have n5_ : Aside0 (Kd.C Kd.string wr (some ad176) y172.length y172) := ⟨by rw [← hq_]; exact (by repeat (first | (with_reducible exact HR175.out) | (with_reducible refine Kd.C_alloc ?_ _) | (with_reducible refine Kd.C_drewN ?_ _) | (with_reducible refine Kd.C_drew ?_) | exact HR175.out))⟩; clear HO_16 HO_169001 BK164 BK168 HB HR175 hq_; have HO_16 := n0_; have HO_169001 := n1_; have BK164 := n2_; have BK168 := n3_; have HB := n4_; have HR175 := n5_; clear n0_ n1_ n2_ n3_ n4_ n5_))) | ((with_reducible refine gate_callee (f := 23) rfl ?_); refine goesL_ (some 40) rfl rfl Tryd.func23 (by kernel_rfl) rfl #[.string t177, .string (⟨#[45]⟩ : ByteArray)] rfl mp_ ?_; (with_reducible refine (strings_Cut.calls t177 (⟨#[45]⟩ : ByteArray) t180 t181 t182 _ ?side1 A19.out).mono ?_); (case side1 => refine LaidW.below HLW.out ?_; repeat (first | (with_reducible first | exact HB.out | apply below_alloc | apply pw_below_drewN | apply below_drew1 | refine below_set ?_ GE164.out | refine below_set ?_ GE168.out) | exact HB.out)); rintro e w' ⟨rfl, ⟨nd, rfl⟩⟩; refine ⟨_, rfl, ?_⟩; (try (rw [drewN_self wr]; generalize hq_ : World.drewN wr _ = wr; have n0_ : Aside0 (Kd.R Kd.string 9 wr w.heap.size (fun k_ => True) (.slice (some ad169) t165.length co9) t165) := ⟨by rw [← hq_]; exact (ra_ HO_16.out)⟩; have n1_ : Aside0 (Kd.R k52 52 wr w.heap.size (fun k_ => True) u169001 x169001_1) := ⟨by rw [← hq_]; exact (ra_ HO_169001.out)⟩; have n2_ : Aside0 (wr.heap[gb164]? = some (.cells #[.int .i64 0, .slice none 0 0] 26 (0, 0))) := ⟨by rw [← hq_]; exact (bk_ BK164.out)⟩; have n3_ : Aside0 (wr.heap[gb168]? = some (.cells #[.int .i64 t170, u169001] 26 (0, 0))) := ⟨by rw [← hq_]; exact (bk_ BK168.out)⟩; have n4_ : Aside0 (Below w.heap.size w wr) := ⟨by rw [← hq_]; exact (bl2_ HB.out GE164.out GE168.out)⟩; have n5_ : Aside0 (Kd.C Kd.string wr (some ad176) y172.length y172) := ⟨by rw [← hq_]; exact (by repeat (first | (with_reducible exact HR175.out) | (with_reducible refine Kd.C_alloc ?_ _) | (with_reducible refine Kd.C_drewN ?_ _) | (with_reducible refine Kd.C_drew ?_) | exact HR175.out))⟩; clear HO_16 HO_169001 BK164 BK168 HB HR175 hq_; have HO_16 := n0_; have HO_169001 := n1_; have BK164 := n2_; have BK168 := n3_; have HB := n4_; have HR175 := n5_; clear n0_ n1_ n2_ n3_ n4_ n5_))) | ((with_reducible refine gate_dst (N := 14) rfl ?_); refine box_event ?hg (N := 14) ?hd (cs := #[.int .i64 0, .int .i64 0, .int .i64 0]) (t := 52) ?hr ?_; (case hd => rfl); (case hg => rfl); (case hr => first | (go_simp; done) | (go_simp; rfl)); intro gb183 hg w24 hbox hb; have n0_ := Aside0.mk (Kd.R_below (ra_ HO_16.out) hb); have n1_ := Aside0.mk (Kd.R_below (Kd.R_elderB (ra_ HO_169001.out) gb183 (Nat.le_of_eq hg.symm)) hb); have n2_ := Aside0.mk (blk_below (g := gb164) (o := .cells #[.int .i64 0, .slice none 0 0] 26 (0, 0)) (bk_ BK164.out) hb); have n3_ := Aside0.mk (blk_below (g := gb168) (o := .cells #[.int .i64 t170, u169001] 26 (0, 0)) (bk_ BK168.out) hb); have n4_ := Aside0.mk (Kd.C_below (by repeat (first | (with_reducible exact HR175.out) | (with_reducible refine Kd.C_alloc ?_ _) | (with_reducible refine Kd.C_drewN ?_ _) | (with_reducible refine Kd.C_drew ?_) | exact HR175.out)) hb); have n5_ := Aside0.mk (below_step (bl2_ HB.out GE164.out GE168.out) hb); have n6_ := Aside0.mk (hbox); have n7_ := Aside0.mk ((by rw [hg]; exact (below_size (bl2_ HB.out GE164.out GE168.out)) : w.heap.size ≤ gb183)); have n8_ := Aside0.mk ((by rw [hg]; exact (below_size (bl2_ HB.out GE164.out GE168.out)) : w.heap.size ≤ gb183)); have n9_ := Aside0.mk ((by rw [hg]; exact Nat.ne_of_lt (blk_lt (bk_ BK164.out)) : gb164 ≠ gb183)); have n10_ := Aside0.mk ((by rw [hg]; exact Nat.ne_of_gt (blk_lt (bk_ BK164.out)) : gb183 ≠ gb164)); have n11_ := Aside0.mk ((by rw [hg]; exact Nat.ne_of_lt (blk_lt (bk_ BK168.out)) : gb168 ≠ gb183)); have n12_ := Aside0.mk ((by rw [hg]; exact Nat.ne_of_gt (blk_lt (bk_ BK168.out)) : gb183 ≠ gb168)); clear HO_16; clear HO_169001; clear BK164; clear BK168; clear HR175; clear HB; have HO_16 := n0_; have HO_169001 := n1_; have BK164 := n2_; have BK168 := n3_; have HR175 := n4_; have HB := n5_; have BK183 := n6_; have GW183 := n7_; have GE183 := n8_; have NB164_183 := n9_; have NB183_164 := n10_; have NB168_183 := n11_; have NB183_168 := n12_; clear n0_ n1_ n2_ n3_ n4_ n5_ n6_ n7_ n8_ n9_ n10_ n11_ n12_; clear hb hbox hg) | ((with_reducible refine gate_callee (f := 22) rfl ?_); refine goesL_ (some 46) rfl rfl Tryd.func22 (by kernel_rfl) rfl #[.string t180] rfl mp_ ?_; (with_reducible refine (impl_readNumber.calls t180 t184 t185 _ ?side1 A20.out).mono ?_); (case side1 => refine LaidW.below HLW.out ?_; repeat (first | (with_reducible first | exact HB.out | apply below_alloc | apply pw_below_drewN | apply below_drew1 | refine below_set ?_ GE164.out | refine below_set ?_ GE168.out | refine below_set ?_ GE183.out) | exact HB.out)); rintro e w25 ⟨rfl, hb⟩; refine ⟨_, rfl, ?_⟩; have n0_ := Aside0.mk (Kd.R_below (ra_ HO_16.out) hb); have n1_ := Aside0.mk (Kd.R_below (ra_ HO_169001.out) hb); have n2_ := Aside0.mk (blk_below (g := gb164) (o := .cells #[.int .i64 0, .slice none 0 0] 26 (0, 0)) (bk_ BK164.out) hb); have n3_ := Aside0.mk (blk_below (g := gb168) (o := .cells #[.int .i64 t170, u169001] 26 (0, 0)) (bk_ BK168.out) hb); have n4_ := Aside0.mk (Kd.C_below (by repeat (first | (with_reducible exact HR175.out) | (with_reducible refine Kd.C_alloc ?_ _) | (with_reducible refine Kd.C_drewN ?_ _) | (with_reducible refine Kd.C_drew ?_) | exact HR175.out)) hb); have n5_ := Aside0.mk (blk_below (g := gb183) (o := .cells #[.int .i64 0, .int .i64 0, .int .i64 0] 52 (0, 0)) (bk_ BK183.out) hb); have n6_ := Aside0.mk (below_step (bl3_ HB.out GE164.out GE168.out GE183.out) hb); clear HO_16; clear HO_169001; clear BK164; clear BK168; clear HR175; clear BK183; clear HB; have HO_16 := n0_; have HO_169001 := n1_; have BK164 := n2_; have BK168 := n3_; have HR175 := n4_; have BK183 := n5_; have HB := n6_; clear n0_ n1_ n2_ n3_ n4_ n5_ n6_; (try clear hb); (try clear hb2); (try clear hk); (try clear hi); have hnb26 := NB183_164.out; have hnc26 := NB164_183.out; have hnb27 := NB183_168.out; have hnc27 := NB168_183.out; obtain ⟨hcz28_0, hcz28_1, hcz28_2, hfz28_0, hfz28_1, hfz28_2⟩ := cz3_ BK183.out) | ((with_reducible refine gate_callee (f := 22) rfl ?_); refine goesL_ (some 52) rfl rfl Tryd.func22 (by kernel_rfl) rfl #[.string t181] rfl mp_ ?_; (with_reducible refine (impl_readNumber.calls t181 t186 t187 _ ?side1 A21.out).mono ?_); (case side1 => refine LaidW.below HLW.out ?_; repeat (first | (with_reducible first | exact HB.out | apply below_alloc | apply pw_below_drewN | apply below_drew1 | refine below_set ?_ GE164.out | refine below_set ?_ GE168.out | refine below_set ?_ GE183.out) | exact HB.out)); rintro e w29 ⟨rfl, hb⟩; refine ⟨_, rfl, ?_⟩; have n0_ := Aside0.mk (Kd.R_below (by (with_reducible repeat (first | apply Kd.R_alloc | apply Kd.R_drewN | apply Kd.R_drew)); exact (Kd.R_mono (Kd.R_far (p := ⟨gb183, 0, none⟩) (Kd.R_types HO_16.out BK183.out (by decide)) (fun _ hk => hk.2) (.int .i64 t184)) (fun _ h_ => h_.1))) hb); have n1_ := Aside0.mk (Kd.R_below (by (with_reducible repeat (first | apply Kd.R_alloc | apply Kd.R_drewN | apply Kd.R_drew)); exact (Kd.R_mono (Kd.R_far (p := ⟨gb183, 0, none⟩) (Kd.R_mono HO_169001.out (fun k_ hk => (⟨hk, hk.2⟩ : _ ∧ k_ ≠ gb183))) (fun _ hk => hk.2) (.int .i64 t184)) (fun _ h_ => h_.1))) hb); have n2_ := Aside0.mk (blk_below (g := gb164) (o := .cells #[.int .i64 0, .slice none 0 0] 26 (0, 0)) (by (with_reducible repeat (first | refine blk_drewN ?_ _ | refine blk_drew ?_ | refine blk_alloc ?_ _)); refine blk_far ?_ NB164_183.out _; (with_reducible repeat (first | refine blk_drewN ?_ _ | refine blk_drew ?_ | refine blk_alloc ?_ _)); exact BK164.out) hb); have n3_ := Aside0.mk (blk_below (g := gb168) (o := .cells #[.int .i64 t170, u169001] 26 (0, 0)) (by (with_reducible repeat (first | refine blk_drewN ?_ _ | refine blk_drew ?_ | refine blk_alloc ?_ _)); refine blk_far ?_ NB168_183.out _; (with_reducible repeat (first | refine blk_drewN ?_ _ | refine blk_drew ?_ | refine blk_alloc ?_ _)); exact BK168.out) hb); have n4_ := Aside0.mk (Kd.C_below ((show Kd.C Kd.string _ (some ad176) y172.length y172 from by rw [Ny172.out, KA14.out]; refine Kd.C_drop (m := 1) (c := co9) (Kd.R_reads' (e := 9) (base := w.heap.size) (ok := fun _ => True) (n := t165.length) (c := co9) ?_).2.2 KL14.out (Kd.R_reads' HO_16.out).2.1; exact (by (with_reducible repeat (first | apply Kd.R_alloc | apply Kd.R_drewN | apply Kd.R_drew)); exact (Kd.R_mono (Kd.R_far (p := ⟨gb183, 0, none⟩) (Kd.R_types HO_16.out BK183.out (by decide)) (fun _ hk => hk.2) (.int .i64 t184)) (fun _ h_ => h_.1))))) hb); have n5_ := Aside0.mk (blk_below (g := gb183) (o := .cells #[.int .i64 t184, .int .i64 0, .int .i64 0] 52 (0, 0)) (by (with_reducible repeat (first | refine blk_drewN ?_ _ | refine blk_drew ?_ | refine blk_alloc ?_ _)); refine blk_put (cs := #[.int .i64 0, .int .i64 0, .int .i64 0]) ?_ 0 _ rfl; (with_reducible repeat (first | refine blk_drewN ?_ _ | refine blk_drew ?_ | refine blk_alloc ?_ _)); exact BK183.out) hb); have n6_ := Aside0.mk (below_step (bl3_ HB.out GE164.out GE168.out GE183.out) hb); clear HO_16; clear HO_169001; clear BK164; clear BK168; clear HR175; clear BK183; clear HB; have HO_16 := n0_; have HO_169001 := n1_; have BK164 := n2_; have BK168 := n3_; have HR175 := n4_; have BK183 := n5_; have HB := n6_; clear n0_ n1_ n2_ n3_ n4_ n5_ n6_; (try clear hb); (try clear hb2); (try clear hk); (try clear hi); obtain ⟨hcz30_0, hcz30_1, hcz30_2, hfz30_0, hfz30_1, hfz30_2⟩ := cz3_ BK183.out) | ((with_reducible refine gate_callee (f := 22) rfl ?_); refine goesL_ (some 58) rfl rfl Tryd.func22 (by kernel_rfl) rfl #[.string t178] rfl mp_ ?_; (with_reducible refine (impl_readNumber.calls t178 t188 t189 _ ?side1 A22.out).mono ?_); (case side1 => refine LaidW.below HLW.out ?_; repeat (first | (with_reducible first | exact HB.out | apply below_alloc | apply pw_below_drewN | apply below_drew1 | refine below_set ?_ GE164.out | refine below_set ?_ GE168.out | refine below_set ?_ GE183.out) | exact HB.out)); rintro e w31 ⟨rfl, hb⟩; refine ⟨_, rfl, ?_⟩; have n0_ := Aside0.mk (Kd.R_below (by (with_reducible repeat (first | apply Kd.R_alloc | apply Kd.R_drewN | apply Kd.R_drew)); exact (Kd.R_mono (Kd.R_far (p := ⟨gb183, 1, none⟩) (Kd.R_types HO_16.out BK183.out (by decide)) (fun _ hk => hk.2) (.int .i64 t186)) (fun _ h_ => h_.1))) hb); have n1_ := Aside0.mk (Kd.R_below (by (with_reducible repeat (first | apply Kd.R_alloc | apply Kd.R_drewN | apply Kd.R_drew)); exact (Kd.R_mono (Kd.R_far (p := ⟨gb183, 1, none⟩) (Kd.R_mono HO_169001.out (fun k_ hk => (⟨hk, hk.2⟩ : _ ∧ k_ ≠ gb183))) (fun _ hk => hk.2) (.int .i64 t186)) (fun _ h_ => h_.1))) hb); have n2_ := Aside0.mk (blk_below (g := gb164) (o := .cells #[.int .i64 0, .slice none 0 0] 26 (0, 0)) (by (with_reducible repeat (first | refine blk_drewN ?_ _ | refine blk_drew ?_ | refine blk_alloc ?_ _)); refine blk_far ?_ NB164_183.out _; (with_reducible repeat (first | refine blk_drewN ?_ _ | refine blk_drew ?_ | refine blk_alloc ?_ _)); exact BK164.out) hb); have n3_ := Aside0.mk (blk_below (g := gb168) (o := .cells #[.int .i64 t170, u169001] 26 (0, 0)) (by (with_reducible repeat (first | refine blk_drewN ?_ _ | refine blk_drew ?_ | refine blk_alloc ?_ _)); refine blk_far ?_ NB168_183.out _; (with_reducible repeat (first | refine blk_drewN ?_ _ | refine blk_drew ?_ | refine blk_alloc ?_ _)); exact BK168.out) hb); have n4_ := Aside0.mk (Kd.C_below ((show Kd.C Kd.string _ (some ad176) y172.length y172 from by rw [Ny172.out, KA14.out]; refine Kd.C_drop (m := 1) (c := co9) (Kd.R_reads' (e := 9) (base := w.heap.size) (ok := fun _ => True) (n := t165.length) (c := co9) ?_).2.2 KL14.out (Kd.R_reads' HO_16.out).2.1; exact (by (with_reducible repeat (first | apply Kd.R_alloc | apply Kd.R_drewN | apply Kd.R_drew)); exact (Kd.R_mono (Kd.R_far (p := ⟨gb183, 1, none⟩) (Kd.R_types HO_16.out BK183.out (by decide)) (fun _ hk => hk.2) (.int .i64 t186)) (fun _ h_ => h_.1))))) hb); have n5_ := Aside0.mk (blk_below (g := gb183) (o := .cells #[.int .i64 t184, .int .i64 t186, .int .i64 0] 52 (0, 0)) (by (with_reducible repeat (first | refine blk_drewN ?_ _ | refine blk_drew ?_ | refine blk_alloc ?_ _)); refine blk_put (cs := #[.int .i64 t184, .int .i64 0, .int .i64 0]) ?_ 1 _ rfl; (with_reducible repeat (first | refine blk_drewN ?_ _ | refine blk_drew ?_ | refine blk_alloc ?_ _)); exact BK183.out) hb); have n6_ := Aside0.mk (below_step (bl3_ HB.out GE164.out GE168.out GE183.out) hb); clear HO_16; clear HO_169001; clear BK164; clear BK168; clear HR175; clear BK183; clear HB; have HO_16 := n0_; have HO_169001 := n1_; have BK164 := n2_; have BK168 := n3_; have HR175 := n4_; have BK183 := n5_; have HB := n6_; clear n0_ n1_ n2_ n3_ n4_ n5_ n6_; (try clear hb); (try clear hb2); (try clear hk); (try clear hi); obtain ⟨hcz32_0, hcz32_1, hcz32_2, hfz32_0, hfz32_1, hfz32_2⟩ := cz3_ BK183.out; have hnb33 := NB168_164.out; have hnc33 := NB164_168.out; obtain ⟨hcz34_0, hcz34_1, hfz34_0, hfz34_1⟩ := cz2_ BK168.out) | ((with_reducible refine gate_builtin (b := .append) (xs := #[.tmp 63, .tmp 65]) rfl ?_); at_builtin; refine Kd.R_append k52 (w0 := w) w.heap.size rfl (.tmp 63) (.tmp 65) 24 52 (.agg #[(.int .i64 0), (.int .i64 0), (.int .i64 0)]) 24 rfl Tryd.underlying24 info52 rfl (by decide) (by omega) u169001 x169001_1 (⟨t184, t186, t188⟩ : S52) [.int .i64 t184, .int .i64 t186, .int .i64 t188] (fun k_ => k_ ≠ gb183) (fun _ => False) rfl (by first | (go_simp; done) | (go_simp; rfl)) ?aP (fun _ hk => hk.elim) ?aF ?aO ?aB ?aS ?aL ?_; (case aP => exact k52_mkM _ _ _ (⟨t184, t186, t188⟩ : S52)); (case aB => exact (bl3_ HB.out GE164.out GE168.out GE183.out)); (case aF => exact (fun k_ hk => Kd.freshB (g := gb183) (o := .cells #[.int .i64 t184, .int .i64 t186, .int .i64 t188] 52 (0, 0)) (by (with_reducible repeat (first | refine blk_drewN ?_ _ | refine blk_drew ?_ | refine blk_alloc ?_ _)); refine blk_put (cs := #[.int .i64 t184, .int .i64 t186, .int .i64 0]) ?_ 2 _ rfl; (with_reducible repeat (first | refine blk_drewN ?_ _ | refine blk_drew ?_ | refine blk_alloc ?_ _)); exact BK183.out) k_ hk)); (case aO => exact (by (with_reducible repeat (first | apply Kd.R_alloc | apply Kd.R_drewN | apply Kd.R_drew)); exact Kd.R_mono (Kd.R_far (p := ⟨gb183, 2, none⟩) (Kd.R_mono HO_169001.out (fun k_ hk => (⟨hk, hk.2⟩ : _ ∧ k_ ≠ gb183))) (fun _ hk => hk.2) (.int .i64 t188)) (fun _ hk => hk.1.2))); (case aS => exact (below_size (bl3_ HB.out GE164.out GE168.out GE183.out))); (case aL => have := LMc23.out; omega); intro v191 w35 ho hb hg hat; rw [← Ny190.out] at ho; have n0_ := Aside0.mk (Kd.R_over' (by (with_reducible repeat (first | apply Kd.R_alloc | apply Kd.R_drewN | apply Kd.R_drew)); exact (Kd.R_mono (Kd.R_far (p := ⟨gb183, 2, none⟩) (Kd.R_types HO_16.out BK183.out (by decide)) (fun _ hk => hk.2) (.int .i64 t188)) (fun _ h_ => h_.1))) (Kd.R_typed (by (with_reducible repeat (first | apply Kd.R_alloc | apply Kd.R_drewN | apply Kd.R_drew)); exact (Kd.R_mono (Kd.R_far (p := ⟨gb183, 2, none⟩) (Kd.R_mono HO_169001.out (fun k_ hk => (⟨hk, hk.2⟩ : _ ∧ k_ ≠ gb183))) (fun _ hk => hk.2) (.int .i64 t188)) (fun _ h_ => h_.1)))) (by decide) hg); have n1_ := Aside0.mk (blk_grown (g := gb164) (o := .cells #[.int .i64 0, .slice none 0 0] 26 (0, 0)) (by (with_reducible repeat (first | refine blk_drewN ?_ _ | refine blk_drew ?_ | refine blk_alloc ?_ _)); refine blk_far ?_ NB164_183.out _; (with_reducible repeat (first | refine blk_drewN ?_ _ | refine blk_drew ?_ | refine blk_alloc ?_ _)); exact BK164.out) hg (Kd.R_ne HO_169001.out BK164.out (by decide))); have n2_ := Aside0.mk (blk_grown (g := gb168) (o := .cells #[.int .i64 t170, u169001] 26 (0, 0)) (by (with_reducible repeat (first | refine blk_drewN ?_ _ | refine blk_drew ?_ | refine blk_alloc ?_ _)); refine blk_far ?_ NB168_183.out _; (with_reducible repeat (first | refine blk_drewN ?_ _ | refine blk_drew ?_ | refine blk_alloc ?_ _)); exact BK168.out) hg (Kd.R_ne HO_169001.out BK168.out (by decide))); have n3_ := Aside0.mk (blk_grown (g := gb183) (o := .cells #[.int .i64 t184, .int .i64 t186, .int .i64 t188] 52 (0, 0)) (by (with_reducible repeat (first | refine blk_drewN ?_ _ | refine blk_drew ?_ | refine blk_alloc ?_ _)); refine blk_put (cs := #[.int .i64 t184, .int .i64 t186, .int .i64 0]) ?_ 2 _ rfl; (with_reducible repeat (first | refine blk_drewN ?_ _ | refine blk_drew ?_ | refine blk_alloc ?_ _)); exact BK183.out) hg (Kd.R_away HO_169001.out (fun _ hk => hk.2))); have n4_ := Aside0.mk (hb); have n5_ := Aside0.mk ((show Kd.C Kd.string w35 (some ad176) y172.length y172 from by rw [Ny172.out, KA14.out]; exact Kd.C_drop (m := 1) (c := co9) ((Kd.R_reads' (Kd.R_over' (by (with_reducible repeat (first | apply Kd.R_alloc | apply Kd.R_drewN | apply Kd.R_drew)); exact (Kd.R_mono (Kd.R_far (p := ⟨gb183, 2, none⟩) (Kd.R_types HO_16.out BK183.out (by decide)) (fun _ hk => hk.2) (.int .i64 t188)) (fun _ h_ => h_.1))) (Kd.R_typed (by (with_reducible repeat (first | apply Kd.R_alloc | apply Kd.R_drewN | apply Kd.R_drew)); exact (Kd.R_mono (Kd.R_far (p := ⟨gb183, 2, none⟩) (Kd.R_mono HO_169001.out (fun k_ hk => (⟨hk, hk.2⟩ : _ ∧ k_ ≠ gb183))) (fun _ hk => hk.2) (.int .i64 t188)) (fun _ h_ => h_.1)))) (by decide) hg)).2.2) KL14.out ((Kd.R_reads' (Kd.R_over' (by (with_reducible repeat (first | apply Kd.R_alloc | apply Kd.R_drewN | apply Kd.R_drew)); exact (Kd.R_mono (Kd.R_far (p := ⟨gb183, 2, none⟩) (Kd.R_types HO_16.out BK183.out (by decide)) (fun _ hk => hk.2) (.int .i64 t188)) (fun _ h_ => h_.1))) (Kd.R_typed (by (with_reducible repeat (first | apply Kd.R_alloc | apply Kd.R_drewN | apply Kd.R_drew)); exact (Kd.R_mono (Kd.R_far (p := ⟨gb183, 2, none⟩) (Kd.R_mono HO_169001.out (fun k_ hk => (⟨hk, hk.2⟩ : _ ∧ k_ ≠ gb183))) (fun _ hk => hk.2) (.int .i64 t188)) (fun _ h_ => h_.1)))) (by decide) hg)).2.1))); have n6_ := Aside0.mk (ho); clear HO_16; clear BK164; clear BK168; clear BK183; clear HB; clear HR175; clear HO_169001; have HO_16 := n0_; have BK164 := n1_; have BK168 := n2_; have BK183 := n3_; have HB := n4_; have HR175 := n5_; have HO192 := n6_; clear n0_ n1_ n2_ n3_ n4_ n5_ n6_; clear ho hb hg hat; obtain ⟨Ao36, co36, eo36⟩ := Kd.R_slice HO192.out; subst eo36; obtain ⟨hcz37_0, hcz37_1, hfz37_0, hfz37_1⟩ := cz2_ BK168.out))
    go_roundg k1
    case measure => have := HK1.out; omega
    case rel => exact ⟨(wrap64 (x28_1 + 1)), (y190), (.slice Ao36 y190.length co36), rs_, H', ⟨by have := HK1.out; omega⟩, ⟨by (with_reducible repeat (first | apply Kd.R_alloc | apply Kd.R_drewN | apply Kd.R_drew)); exact Kd.R_mono (Kd.R_far (p := ⟨gb168, 1, none⟩) (Kd.R_types HO_16.out BK168.out (by decide)) (fun _ hk => hk.2) (.slice Ao36 y190.length co36)) (fun _ hk => trivial)⟩, ⟨by (with_reducible repeat (first | apply Kd.R_alloc | apply Kd.R_drewN | apply Kd.R_drew)); exact Kd.R_mono (Kd.R_far (p := ⟨gb168, 1, none⟩) (Kd.R_types HO192.out BK168.out (by decide)) (fun _ hk => hk.2) (.slice Ao36 y190.length co36)) (fun _ hk => trivial)⟩, ⟨by (with_reducible repeat (first | refine blk_drewN ?_ _ | refine blk_drew ?_ | refine blk_alloc ?_ _)); refine blk_far ?_ NB164_168.out _; (with_reducible repeat (first | refine blk_drewN ?_ _ | refine blk_drew ?_ | refine blk_alloc ?_ _)); exact BK164.out⟩, ⟨by (with_reducible repeat (first | refine blk_drewN ?_ _ | refine blk_drew ?_ | refine blk_alloc ?_ _)); refine blk_put (cs := #[.int .i64 t170, u169001]) ?_ 1 _ rfl; (with_reducible repeat (first | refine blk_drewN ?_ _ | refine blk_drew ?_ | refine blk_alloc ?_ _)); exact BK168.out⟩, ⟨(show Kd.C Kd.string _ (some ad176) y172.length y172 from by rw [Ny172.out, KA14.out]; refine Kd.C_drop (m := 1) (c := co9) (Kd.R_reads' (e := 9) (base := w.heap.size) (ok := fun _ => True) (n := t165.length) (c := co9) ?_).2.2 KL14.out (Kd.R_reads' HO_16.out).2.1; exact (by (with_reducible repeat (first | apply Kd.R_alloc | apply Kd.R_drewN | apply Kd.R_drew)); exact (Kd.R_mono (Kd.R_far (p := ⟨gb168, 1, none⟩) (Kd.R_types HO_16.out BK168.out (by decide)) (fun _ hk => hk.2) (.slice Ao36 y190.length co36)) (fun _ h_ => h_.1))))⟩, ⟨bl3_ HB.out GE164.out GE168.out GE183.out⟩⟩
   ·rw [if_neg c15] at H
    have c15b0 := decide_eq_false c15
    clear c15
    replace H := Option.bind_eq_some_iff.mp H
    obtain ⟨t193, A380, H⟩ := H
    replace H : (if t193 = true then ((impl_treeText.f k1 t170 x169001_1).bind fun t194 => (if t194.toList = a0.toList then (some (t170, x169001_1, true)) else (some (0, ([] : List (S52)), false)))) else (some (0, ([] : List (S52)), false))) = some (r1, r2, r3) := H
    have A38 := Aside0.mk A380
    clear A380
    by_cases c39 : t193 = true
    ·subst c39
     have H1 : ((impl_treeText.f k1 t170 x169001_1).bind fun t194 => (if t194.toList = a0.toList then (some (t170, x169001_1, true)) else (some (0, ([] : List (S52)), false)))) = some (r1, r2, r3) := by rw [if_pos rfl] at H; exact H
     clear H
     have H := H1
     clear H1
     replace H := Option.bind_eq_some_iff.mp H
     obtain ⟨t194, A400, H⟩ := H
     replace H : (if t194.toList = a0.toList then (some (t170, x169001_1, true)) else (some (0, ([] : List (S52)), false))) = some (r1, r2, r3) := H
     have A40 := Aside0.mk A400
     clear A400
     by_cases c41 : t194.toList = a0.toList
     ·rw [if_pos c41] at H
      have c41b0 : (t194.toList == a0.toList) = true := beq_iff_eq.mpr c41
      have c41b1 : (t194.toList != a0.toList) = false := bne_eq_false_iff_eq.mpr c41
      clear c41
      simp only [Option.some.injEq, Prod.mk.injEq] at H
      obtain ⟨rfl, rfl, rfl⟩ := H
      have hnb42 := NB168_164.out
      have hnc42 := NB164_168.out
      obtain ⟨hcz43_0, hcz43_1, hfz43_0, hfz43_1⟩ := cz2_ BK168.out
      obtain ⟨Ao44, co44, eo44⟩ := Kd.R_slice HO_169001.out
      subst eo44
      go_wp2_with (first | ((with_reducible refine gate_callee (f := 24) rfl ?_); refine goesL_ (some 70) rfl rfl Tryd.func24 (by kernel_rfl) rfl #[.agg #[.int .i64 t170, .slice Ao44 x169001_1.length co44]] rfl mp_ ?_; (with_reducible refine (impl_ValidTree.calls k1 t170 _ _ x169001_1 true _ ?side1 ?side2 A38.out).mono ?_); (case side1 => exact ca_ (Kd.R_reads' HO_169001.out).2.2); (case side2 => exact (Kd.R_reads' HO_169001.out).2.1); rintro e w45 ⟨rfl, hb⟩; refine ⟨_, rfl, ?_⟩; have n0_ := Aside0.mk (Kd.R_below (ra_ HO_16.out) hb); have n1_ := Aside0.mk (Kd.R_below (ra_ HO_169001.out) hb); have n2_ := Aside0.mk (blk_below (g := gb164) (o := .cells #[.int .i64 0, .slice none 0 0] 26 (0, 0)) (bk_ BK164.out) hb); have n3_ := Aside0.mk (blk_below (g := gb168) (o := .cells #[.int .i64 t170, .slice Ao44 x169001_1.length co44] 26 (0, 0)) (bk_ BK168.out) hb); have n4_ := Aside0.mk (Kd.C_below (by repeat (first | (with_reducible exact HR175.out) | (with_reducible refine Kd.C_alloc ?_ _) | (with_reducible refine Kd.C_drewN ?_ _) | (with_reducible refine Kd.C_drew ?_) | exact HR175.out)) hb); have n5_ := Aside0.mk (below_step (bl2_ HB.out GE164.out GE168.out) hb); clear HO_16; clear HO_169001; clear BK164; clear BK168; clear HR175; clear HB; have HO_16 := n0_; have HO_169001 := n1_; have BK164 := n2_; have BK168 := n3_; have HR175 := n4_; have HB := n5_; clear n0_ n1_ n2_ n3_ n4_ n5_; (try clear hb); (try clear hb2); (try clear hk); (try clear hi); obtain ⟨hcz46_0, hcz46_1, hfz46_0, hfz46_1⟩ := cz2_ BK168.out) | (go_at_call 25; (with_reducible refine (impl_treeText.calls k1 t170 _ _ x169001_1 t194 _ ?side1 ?side2 A40.out).mono ?_); (case side1 => exact ca_ (Kd.R_reads' HO_169001.out).2.2); (case side2 => exact (Kd.R_reads' HO_169001.out).2.1); rintro e w47 ⟨rfl, hb⟩; have n0_ := Aside0.mk (Kd.R_below (ra_ HO_16.out) hb); have n1_ := Aside0.mk (Kd.R_below (ra_ HO_169001.out) hb); have n2_ := Aside0.mk (blk_below (g := gb164) (o := .cells #[.int .i64 0, .slice none 0 0] 26 (0, 0)) (bk_ BK164.out) hb); have n3_ := Aside0.mk (blk_below (g := gb168) (o := .cells #[.int .i64 t170, .slice Ao44 x169001_1.length co44] 26 (0, 0)) (bk_ BK168.out) hb); have n4_ := Aside0.mk (Kd.C_below (by repeat (first | (with_reducible exact HR175.out) | (with_reducible refine Kd.C_alloc ?_ _) | (with_reducible refine Kd.C_drewN ?_ _) | (with_reducible refine Kd.C_drew ?_) | exact HR175.out)) hb); have n5_ := Aside0.mk (below_step (bl2_ HB.out GE164.out GE168.out) hb); clear HO_16; clear HO_169001; clear BK164; clear BK168; clear HR175; clear HB; have HO_16 := n0_; have HO_169001 := n1_; have BK164 := n2_; have BK168 := n3_; have HR175 := n4_; have HB := n5_; clear n0_ n1_ n2_ n3_ n4_ n5_; (try clear hb); (try clear hb2); (try clear hk); (try clear hi); obtain ⟨hcz48_0, hcz48_1, hfz48_0, hfz48_1⟩ := cz2_ BK168.out; obtain ⟨hcz49_0, hcz49_1, hfz49_0, hfz49_1⟩ := cz2_ BK164.out))
      refine bodyPost_ret (results_ct rfl _ _ gb164 26 #[.int .i64 t170, .slice Ao44 x169001_1.length co44] (0, 0) _ rfl (by (with_reducible repeat (first | refine blk_drewN ?_ _ | refine blk_drew ?_ | refine blk_alloc ?_ _)); refine blk_put (cs := #[.int .i64 t170, .slice none 0 0]) ?_ 1 _ rfl; (with_reducible repeat (first | refine blk_drewN ?_ _ | refine blk_drew ?_ | refine blk_alloc ?_ _)); refine blk_put (cs := #[.int .i64 0, .slice none 0 0]) ?_ 0 _ rfl; (with_reducible repeat (first | refine blk_drewN ?_ _ | refine blk_drew ?_ | refine blk_alloc ?_ _)); exact BK164.out) Tryd.underlying26 rfl (by kernel_rfl)) rfl ?_
      exact ⟨_, re_, by (with_reducible repeat (first | apply Kd.R_alloc | apply Kd.R_drewN | apply Kd.R_drew)); exact Kd.R_mono (Kd.R_far (p := ⟨gb164, 1, none⟩) (Kd.R_far (p := ⟨gb164, 0, none⟩) (Kd.R_types HO_169001.out BK164.out (by decide)) (fun _ hk => hk.2) (.int .i64 t170)) (fun _ hk => hk.2) (.slice Ao44 x169001_1.length co44)) (fun _ hk => trivial), bl2_ HB.out GE164.out GE168.out⟩
     ·rw [if_neg c41] at H
      have c41b0 : (t194.toList == a0.toList) = false := beq_eq_false_iff_ne.mpr c41
      have c41b1 : (t194.toList != a0.toList) = true := bne_iff_ne.mpr c41
      simp only [Option.some.injEq, Prod.mk.injEq] at H
      obtain ⟨rfl, rfl, rfl⟩ := H
      have hnb50 := NB168_164.out
      have hnc50 := NB164_168.out
      obtain ⟨hcz51_0, hcz51_1, hfz51_0, hfz51_1⟩ := cz2_ BK168.out
      obtain ⟨Ao52, co52, eo52⟩ := Kd.R_slice HO_169001.out
      subst eo52
      go_wp2_with (first | ((with_reducible refine gate_callee (f := 24) rfl ?_); refine goesL_ (some 70) rfl rfl Tryd.func24 (by kernel_rfl) rfl #[.agg #[.int .i64 t170, .slice Ao52 x169001_1.length co52]] rfl mp_ ?_; (with_reducible refine (impl_ValidTree.calls k1 t170 _ _ x169001_1 true _ ?side1 ?side2 A38.out).mono ?_); (case side1 => exact ca_ (Kd.R_reads' HO_169001.out).2.2); (case side2 => exact (Kd.R_reads' HO_169001.out).2.1); rintro e w53 ⟨rfl, hb⟩; refine ⟨_, rfl, ?_⟩; have n0_ := Aside0.mk (Kd.R_below (ra_ HO_16.out) hb); have n1_ := Aside0.mk (Kd.R_below (ra_ HO_169001.out) hb); have n2_ := Aside0.mk (blk_below (g := gb164) (o := .cells #[.int .i64 0, .slice none 0 0] 26 (0, 0)) (bk_ BK164.out) hb); have n3_ := Aside0.mk (blk_below (g := gb168) (o := .cells #[.int .i64 t170, .slice Ao52 x169001_1.length co52] 26 (0, 0)) (bk_ BK168.out) hb); have n4_ := Aside0.mk (Kd.C_below (by repeat (first | (with_reducible exact HR175.out) | (with_reducible refine Kd.C_alloc ?_ _) | (with_reducible refine Kd.C_drewN ?_ _) | (with_reducible refine Kd.C_drew ?_) | exact HR175.out)) hb); have n5_ := Aside0.mk (below_step (bl2_ HB.out GE164.out GE168.out) hb); clear HO_16; clear HO_169001; clear BK164; clear BK168; clear HR175; clear HB; have HO_16 := n0_; have HO_169001 := n1_; have BK164 := n2_; have BK168 := n3_; have HR175 := n4_; have HB := n5_; clear n0_ n1_ n2_ n3_ n4_ n5_; (try clear hb); (try clear hb2); (try clear hk); (try clear hi); obtain ⟨hcz54_0, hcz54_1, hfz54_0, hfz54_1⟩ := cz2_ BK168.out) | (go_at_call 25; (with_reducible refine (impl_treeText.calls k1 t170 _ _ x169001_1 t194 _ ?side1 ?side2 A40.out).mono ?_); (case side1 => exact ca_ (Kd.R_reads' HO_169001.out).2.2); (case side2 => exact (Kd.R_reads' HO_169001.out).2.1); rintro e w55 ⟨rfl, hb⟩; have n0_ := Aside0.mk (Kd.R_below (ra_ HO_16.out) hb); have n1_ := Aside0.mk (Kd.R_below (ra_ HO_169001.out) hb); have n2_ := Aside0.mk (blk_below (g := gb164) (o := .cells #[.int .i64 0, .slice none 0 0] 26 (0, 0)) (bk_ BK164.out) hb); have n3_ := Aside0.mk (blk_below (g := gb168) (o := .cells #[.int .i64 t170, .slice Ao52 x169001_1.length co52] 26 (0, 0)) (bk_ BK168.out) hb); have n4_ := Aside0.mk (Kd.C_below (by repeat (first | (with_reducible exact HR175.out) | (with_reducible refine Kd.C_alloc ?_ _) | (with_reducible refine Kd.C_drewN ?_ _) | (with_reducible refine Kd.C_drew ?_) | exact HR175.out)) hb); have n5_ := Aside0.mk (below_step (bl2_ HB.out GE164.out GE168.out) hb); clear HO_16; clear HO_169001; clear BK164; clear BK168; clear HR175; clear HB; have HO_16 := n0_; have HO_169001 := n1_; have BK164 := n2_; have BK168 := n3_; have HR175 := n4_; have HB := n5_; clear n0_ n1_ n2_ n3_ n4_ n5_; (try clear hb); (try clear hb2); (try clear hk); (try clear hi); obtain ⟨hcz56_0, hcz56_1, hfz56_0, hfz56_1⟩ := cz2_ BK164.out))
      refine bodyPost_ret (results_ct rfl _ _ gb164 26 #[.int .i64 0, .slice none 0 0] (0, 0) _ rfl (by (with_reducible repeat (first | refine blk_drewN ?_ _ | refine blk_drew ?_ | refine blk_alloc ?_ _)); refine blk_put (cs := #[.int .i64 0, .slice none 0 0]) ?_ 1 _ rfl; (with_reducible repeat (first | refine blk_drewN ?_ _ | refine blk_drew ?_ | refine blk_alloc ?_ _)); refine blk_put (cs := #[.int .i64 0, .slice none 0 0]) ?_ 0 _ rfl; (with_reducible repeat (first | refine blk_drewN ?_ _ | refine blk_drew ?_ | refine blk_alloc ?_ _)); exact BK164.out) Tryd.underlying26 rfl (by kernel_rfl)) rfl ?_
      exact ⟨_, re_, by first | exact Kd.R_nil _ _ _ _ _ | exact Kd.N_nil _ _ _ _ _ | exact Kd.V_nil _ _ _ _ _ | exact Kd.Q_nil _ _ _ _ _ | exact Kd.S_nil _ _ _ _ _, bl2_ HB.out GE164.out GE168.out⟩
    ·replace c39 := Bool.eq_false_iff.mpr c39
     subst c39
     have H1 : (some (0, ([] : List (S52)), false)) = some (r1, r2, r3) := by rw [if_neg (show ¬ (false = true) by decide)] at H; exact H
     clear H
     have H := H1
     clear H1
     simp only [Option.some.injEq, Prod.mk.injEq] at H
     obtain ⟨rfl, rfl, rfl⟩ := H
     have hnb57 := NB168_164.out
     have hnc57 := NB164_168.out
     obtain ⟨hcz58_0, hcz58_1, hfz58_0, hfz58_1⟩ := cz2_ BK168.out
     obtain ⟨Ao59, co59, eo59⟩ := Kd.R_slice HO_169001.out
     subst eo59
     go_wp2_with (first | ((with_reducible refine gate_callee (f := 24) rfl ?_); refine goesL_ (some 70) rfl rfl Tryd.func24 (by kernel_rfl) rfl #[.agg #[.int .i64 t170, .slice Ao59 x169001_1.length co59]] rfl mp_ ?_; (with_reducible refine (impl_ValidTree.calls k1 t170 _ _ x169001_1 false _ ?side1 ?side2 A38.out).mono ?_); (case side1 => exact ca_ (Kd.R_reads' HO_169001.out).2.2); (case side2 => exact (Kd.R_reads' HO_169001.out).2.1); rintro e w60 ⟨rfl, hb⟩; refine ⟨_, rfl, ?_⟩; have n0_ := Aside0.mk (Kd.R_below (ra_ HO_16.out) hb); have n1_ := Aside0.mk (Kd.R_below (ra_ HO_169001.out) hb); have n2_ := Aside0.mk (blk_below (g := gb164) (o := .cells #[.int .i64 0, .slice none 0 0] 26 (0, 0)) (bk_ BK164.out) hb); have n3_ := Aside0.mk (blk_below (g := gb168) (o := .cells #[.int .i64 t170, .slice Ao59 x169001_1.length co59] 26 (0, 0)) (bk_ BK168.out) hb); have n4_ := Aside0.mk (Kd.C_below (by repeat (first | (with_reducible exact HR175.out) | (with_reducible refine Kd.C_alloc ?_ _) | (with_reducible refine Kd.C_drewN ?_ _) | (with_reducible refine Kd.C_drew ?_) | exact HR175.out)) hb); have n5_ := Aside0.mk (below_step (bl2_ HB.out GE164.out GE168.out) hb); clear HO_16; clear HO_169001; clear BK164; clear BK168; clear HR175; clear HB; have HO_16 := n0_; have HO_169001 := n1_; have BK164 := n2_; have BK168 := n3_; have HR175 := n4_; have HB := n5_; clear n0_ n1_ n2_ n3_ n4_ n5_; (try clear hb); (try clear hb2); (try clear hk); (try clear hi); obtain ⟨hcz61_0, hcz61_1, hfz61_0, hfz61_1⟩ := cz2_ BK164.out))
     refine bodyPost_ret (results_ct rfl _ _ gb164 26 #[.int .i64 0, .slice none 0 0] (0, 0) _ rfl (by (with_reducible repeat (first | refine blk_drewN ?_ _ | refine blk_drew ?_ | refine blk_alloc ?_ _)); refine blk_put (cs := #[.int .i64 0, .slice none 0 0]) ?_ 1 _ rfl; (with_reducible repeat (first | refine blk_drewN ?_ _ | refine blk_drew ?_ | refine blk_alloc ?_ _)); refine blk_put (cs := #[.int .i64 0, .slice none 0 0]) ?_ 0 _ rfl; (with_reducible repeat (first | refine blk_drewN ?_ _ | refine blk_drew ?_ | refine blk_alloc ?_ _)); exact BK164.out) Tryd.underlying26 rfl (by kernel_rfl)) rfl ?_
     exact ⟨_, re_, by first | exact Kd.R_nil _ _ _ _ _ | exact Kd.N_nil _ _ _ _ _ | exact Kd.V_nil _ _ _ _ _ | exact Kd.Q_nil _ _ _ _ _ | exact Kd.S_nil _ _ _ _ _, bl2_ HB.out GE164.out GE168.out⟩

/-! ### spec_l02Split: function 31 -/
def spec_l02Split.l0 : Nat → ByteArray → Int → List ByteArray → Int → Int → Option (List ByteArray)
 | 0, _, _, _, _, _ => none
 | k + 1, x0, x1, x5, x6, x7 => if x7 < (x0.size : Int) then (if 0 ≤ x7 then (if (bt x0 x7) = x1 then (if 0 ≤ x6 then (if x6 ≤ x7 then (if x7 ≤ (x0.size : Int) then (if x5.length < 8796093022208 then (spec_l02Split.l0 k x0 x1 (x5 ++ [x0.extract (x6 : Int).toNat (x7 : Int).toNat]) (wrap64 (x7 + 1)) (wrap64 (x7 + 1))) else (none)) else (none)) else (none)) else (none)) else (spec_l02Split.l0 k x0 x1 x5 x6 (wrap64 (x7 + 1)))) else (none)) else (if 0 ≤ x6 then (if x6 ≤ (x0.size : Int) then (if x5.length < 8796093022208 then (some (x5 ++ [x0.extract (x6 : Int).toNat x0.size])) else (none)) else (none)) else (none))
def spec_l02Split.f (k : Nat) (a0 : ByteArray) (a1 : Int) : Option (List ByteArray) := spec_l02Split.l0 k a0 a1 (([] : List ByteArray)) 0 0
theorem spec_l02Split.mono_l : ∀ k, (∀ y0 y1 y2 y3 y4, LeO (spec_l02Split.l0 k y0 y1 y2 y3 y4) (spec_l02Split.l0 (k + 1) y0 y1 y2 y3 y4))
 | 0 => fun _ _ _ _ _ r h => by simp [spec_l02Split.l0] at h
 | k + 1 => by
  have ih0 := spec_l02Split.mono_l k
  ·intro y0 y1 y2 y3 y4
   unfold spec_l02Split.l0
   repeat' first
   | (with_reducible exact ih0 _ _ _ _ _)
   | (with_reducible exact LeO.refl _)
   | (with_reducible exact LeO.none _)
   | (with_reducible refine LeO.ite ?_ ?_)
   | (with_reducible refine LeO.bind ?_ (fun _ => ?_))
theorem spec_l02Split.mono : ∀ a0 a1 k, LeO (spec_l02Split.f k a0 a1) (spec_l02Split.f (k + 1) a0 a1) := by
 intro a0 a1 k
 have ih0 := spec_l02Split.mono_l k
 unfold spec_l02Split.f
 repeat' first
   | (with_reducible exact ih0 _ _ _ _ _)
   | (with_reducible exact LeO.refl _)
   | (with_reducible exact LeO.none _)
   | (with_reducible refine LeO.ite ?_ ?_)
   | (with_reducible refine LeO.bind ?_ (fun _ => ?_))
set_option maxHeartbeats 8000000 in
set_option maxRecDepth 100000 in
theorem spec_l02Split.calls (k : Nat) (a0 : ByteArray) (a1 : Int) (r : List ByteArray) (w : World) (h : spec_l02Split.f k a0 a1 = some r) :
  Calls Tryd.prog 31 #[.string a0, .int .u8 a1] w fun e w' => ∃ v0_ : Value, e = .returned (v0_) ∧ Kd.R Kd.string 9 w' w.heap.size (fun _ => True) v0_ r ∧ Below w.heap.size w w' := by
 have HB := Aside0.mk (Below.refl w.heap.size w)
 have H : (spec_l02Split.l0 k a0 a1 (([] : List ByteArray)) 0 0) = some r := h
 clear h
 obtain ⟨y195, hy195⟩ : ∃ y_ : List ByteArray, y_ = (([] : List ByteArray)) := ⟨_, rfl⟩
 replace H : (spec_l02Split.l0 k a0 a1 y195 0 0) = some r := yh_ H hy195
 have Ny195 := Aside0.mk hy195
 clear hy195
 have H' := Aside0.mk H
 clear H
 go_enter Tryd.func31, Tryd.ntmps31
 go_wp2_with (first | ((with_reducible refine gate_dst (N := 8) rfl ?_); refine Kd.R_lit Kd.string _ 9 ?hg (N := 8) ?hd (xs := ([] : List ByteArray)) (inner := []) (ok := fun _ => True) (okp := fun _ => True) ?hr ?hp (fun _ hk => hk) trivial (Below.refl _ _) (Nat.le_refl _) (by simp) ?_; (case hd => rfl); (case hg => rfl); (case hr => first | (go_simp; done) | (go_simp; rfl)); (case hp => exact (Reps.none _ _)); intro v196 w3 ho4 hb hg_ hnew_; clear hg_ hnew_; (first | rw [← Ny195.out] at ho4 | (simp only [Int.reduceToNat] at ho4; rw [← Ny195.out] at ho4)); have n0_ := Aside0.mk (Kd.R_lower ho4 (below_size (bl0_ HB.out))); have n1_ := Aside0.mk (below_step (bl0_ HB.out) hb); clear HB; have HO197 := n0_; have HB := n1_; clear n0_ n1_; clear hb ho4))
 go_loopg [5, 6, 7] k (fun kq v5 v6 v7 w' => ∃ (x5_1 : List ByteArray) (x6_1 : Int) (x7_1 : Int), v6 = .int .i64 x6_1 ∧ v7 = .int .i64 x7_1 ∧ Aside0 (spec_l02Split.l0 kq a0 a1 x5_1 x6_1 x7_1 = some r) ∧ Aside0 (kq ≤ k) ∧ Aside0 (Kd.R Kd.string 9 w' w.heap.size (fun _ => True) v5 x5_1) ∧ Aside0 (Below w.heap.size w w'))
 case atStart => exact ⟨(y195), (0), (0), rs_, rs_, H', ⟨Nat.le_refl _⟩, ⟨ra_ HO197.out⟩, ⟨bl0_ HB.out⟩⟩
 case round =>
  clear H'
  try clear p2
  try clear c3
  obtain ⟨x5_1, x6_1, x7_1, rfl, rfl, HA, HK1, HO_5, HB⟩ := hrel
  cases gk with
  | zero => exact absurd HA.out (by simp [spec_l02Split.l0])
  | succ k1 =>
   have H := HA.out
   clear HA
   simp only [spec_l02Split.l0] at H
   by_cases c5 : x7_1 < (a0.size : Int)
   ·rw [if_pos c5] at H
    have c5b0 := decide_eq_true c5
    clear c5
    by_cases c6 : 0 ≤ x7_1
    rotate_left
    ·exact nope_ c6 H
    rw [if_pos c6] at H
    have c6b0 := decide_eq_true c6
    clear c6
    by_cases c8 : (bt a0 x7_1) = a1
    ·rw [if_pos c8] at H
     have c8b0 : ((bt a0 x7_1) == a1) = true := beq_iff_eq.mpr c8
     have c8b1 : ((bt a0 x7_1) != a1) = false := bne_eq_false_iff_eq.mpr c8
     clear c8
     by_cases c9 : 0 ≤ x6_1
     rotate_left
     ·exact nope_ c9 H
     rw [if_pos c9] at H
     have c9b0 := eq_true c9
     have c9b1 := decide_eq_true c9
     clear c9
     by_cases c10 : x6_1 ≤ x7_1
     rotate_left
     ·exact nope_ c10 H
     rw [if_pos c10] at H
     have c10b0 := eq_true c10
     have c10b1 := decide_eq_true c10
     clear c10
     by_cases c11 : x7_1 ≤ (a0.size : Int)
     rotate_left
     ·exact nope_ c11 H
     rw [if_pos c11] at H
     have c11b0 := eq_true c11
     have c11b1 := decide_eq_true c11
     clear c11
     by_cases c12 : x5_1.length < 8796093022208
     rotate_left
     ·exact nope_ c12 H
     rw [if_pos c12] at H
     have LMc12 := Aside0.mk c12
     clear c12
     obtain ⟨y198, hy198⟩ : ∃ y_ : List ByteArray, y_ = (x5_1 ++ [a0.extract (x6_1 : Int).toNat (x7_1 : Int).toNat]) := ⟨_, rfl⟩
     replace H : (spec_l02Split.l0 k1 a0 a1 y198 (wrap64 (x7_1 + 1)) (wrap64 (x7_1 + 1))) = some r := yh_ H hy198
     have Ny198 := Aside0.mk hy198
     clear hy198
     have H' := Aside0.mk H
     clear H
     have p7 : 0 ≤ (x7_1 : Int) := od_
     have q7 : x7_1 < (a0.size : Int) := od_
     have hx7 := bt_at a0 x7_1
     replace p7 := eq_true p7
     replace q7 := eq_true q7
     go_wp2_with (first | ((with_reducible refine gate_builtin (b := .append) (xs := #[.tmp 20, .tmp 25]) rfl ?_); at_builtin; refine Kd.R_append Kd.string (w0 := w) w.heap.size rfl (.tmp 20) (.tmp 25) 45 9 (.string ⟨#[]⟩) 16 rfl Tryd.underlying45 info9 rfl (by decide) (by omega) u5 x5_1 (a0.extract (x6_1 : Int).toNat (x7_1 : Int).toNat) [.string (a0.extract (x6_1 : Int).toNat (x7_1 : Int).toNat)] (fun _ => True) (fun _ => False) rfl rfl ?aP (fun _ hk => hk.elim) ?aF ?aO ?aB ?aS ?aL ?_; (case aP => exact rfl); (case aB => exact (bl0_ HB.out)); (case aF => exact (fun _ _ => trivial)); (case aO => exact (ra_ HO_5.out)); (case aS => exact (below_size (bl0_ HB.out))); (case aL => have := LMc12.out; omega); intro v199 w13 ho hb hg hat; rw [← Ny198.out] at ho; have n0_ := Aside0.mk (hb); have n1_ := Aside0.mk (ho); clear HB; clear HO_5; have HB := n0_; have HO200 := n1_; clear n0_ n1_; clear ho hb hg hat))
     go_roundg k1
     case measure => have := HK1.out; omega
     case rel => exact ⟨(y198), (wrap64 (x7_1 + 1)), (wrap64 (x7_1 + 1)), rs_, rs_, H', ⟨by have := HK1.out; omega⟩, ⟨ra_ HO200.out⟩, ⟨bl0_ HB.out⟩⟩
    ·rw [if_neg c8] at H
     have c8b0 : ((bt a0 x7_1) == a1) = false := beq_eq_false_iff_ne.mpr c8
     have c8b1 : ((bt a0 x7_1) != a1) = true := bne_iff_ne.mpr c8
     have H' := Aside0.mk H
     clear H
     have p7 : 0 ≤ (x7_1 : Int) := od_
     have q7 : x7_1 < (a0.size : Int) := od_
     have hx7 := bt_at a0 x7_1
     replace p7 := eq_true p7
     replace q7 := eq_true q7
     go_wp2
     go_roundg k1
     case measure => have := HK1.out; omega
     case rel => exact ⟨(x5_1), (x6_1), (wrap64 (x7_1 + 1)), rs_, rs_, H', ⟨by have := HK1.out; omega⟩, ⟨ra_ HO_5.out⟩, ⟨bl0_ HB.out⟩⟩
   ·rw [if_neg c5] at H
    have c5b0 := decide_eq_false c5
    clear c5
    by_cases c14 : 0 ≤ x6_1
    rotate_left
    ·exact nope_ c14 H
    rw [if_pos c14] at H
    have c14b0 := eq_true c14
    have c14b1 := decide_eq_true c14
    clear c14
    by_cases c15 : x6_1 ≤ (a0.size : Int)
    rotate_left
    ·exact nope_ c15 H
    rw [if_pos c15] at H
    have c15b0 := eq_true c15
    have c15b1 := decide_eq_true c15
    clear c15
    by_cases c16 : x5_1.length < 8796093022208
    rotate_left
    ·exact nope_ c16 H
    rw [if_pos c16] at H
    have LMc16 := Aside0.mk c16
    clear c16
    obtain ⟨y201, hy201⟩ : ∃ y_ : List ByteArray, y_ = (x5_1 ++ [a0.extract (x6_1 : Int).toNat a0.size]) := ⟨_, rfl⟩
    replace H : (some y201) = some r := yh_ H hy201
    have Ny201 := Aside0.mk hy201
    clear hy201
    obtain rfl := Option.some.inj H
    go_wp2_with (first | ((with_reducible refine gate_builtin (b := .append) (xs := #[.tmp 29, .tmp 33]) rfl ?_); at_builtin; refine Kd.R_append Kd.string (w0 := w) w.heap.size rfl (.tmp 29) (.tmp 33) 45 9 (.string ⟨#[]⟩) 16 rfl Tryd.underlying45 info9 rfl (by decide) (by omega) u5 x5_1 (a0.extract (x6_1 : Int).toNat a0.size) [.string (a0.extract (x6_1 : Int).toNat a0.size)] (fun _ => True) (fun _ => False) rfl rfl ?aP (fun _ hk => hk.elim) ?aF ?aO ?aB ?aS ?aL ?_; (case aP => exact rfl); (case aB => exact (bl0_ HB.out)); (case aF => exact (fun _ _ => trivial)); (case aO => exact (ra_ HO_5.out)); (case aS => exact (below_size (bl0_ HB.out))); (case aL => have := LMc16.out; omega); intro v202 w17 ho hb hg hat; rw [← Ny201.out] at ho; have n0_ := Aside0.mk (hb); have n1_ := Aside0.mk (ho); clear HB; clear HO_5; have HB := n0_; have HO203 := n1_; clear n0_ n1_; clear ho hb hg hat))
    go_ret
    exact ⟨_, re_, ra_ HO203.out, bl0_ HB.out⟩

end Go.Proofs.YtddaiabilhjcpaaDoor.A
