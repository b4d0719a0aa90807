/- For functions of the translation: a Lean function each, and that the call of the Go function comes to its answer. Written by this session's own program (myprint.py, over the kit's printer). -/
import Derived.Test.YtmckbecegiegaaaAx0
import Derived.Test.YtmckbecegiegaaaAx8
import Derived.Test.YtmckbecegiegaaaAx18
import Derived.Test.YtmckbecegiegaaaAx20
import Derived.Test.YtmckbecegiegaaaAx21
import Derived.Test.YtmckbecegiegaaaAx22
--compacted
namespace Go.Proofs.Ytmckbecegiegaaa.A
open Go.RowKit Go.Proofs.YtmckbecegiegaaaW.PrintWords Go.Proofs.YtmckbecegiegaaaW.PrintLast Go.Proofs.YtmckbecegiegaaaW.PrintMore
attribute [local go_sem] max2_int min2_int max_two min_two max_three min_three max_four min_four   -- for this text's walks alone
set_option linter.unusedVariables false
set_option linter.unusedSimpArgs false

/-! ### laws_FnPackings: function 3 -/
mutual
def laws_FnPackings.j2 : Nat → Int → Int → Int → List (S75) → Option (Bool)
 | 0, _, _, _, _ => none
 | k + 1, x6, x9, x599000, x599001 => (impl_SmallestSide.f k x599000 x599001 9 3000).bind fun bt622 => (if bt622.2 = 0 then (if x9 = 0 then (if bt622.1 > x6 then (laws_FnPackings.j3 k bt622.1 true x599000 x599001) else (if x9 = 3 then (laws_FnPackings.j3 k bt622.1 (bt622.1 == x6) x599000 x599001) else (laws_FnPackings.j3 k bt622.1 false x599000 x599001))) else (if x9 = 3 then (laws_FnPackings.j3 k bt622.1 (bt622.1 == x6) x599000 x599001) else (laws_FnPackings.j3 k bt622.1 false x599000 x599001))) else (if bt622.2 = 10 then (some true) else (if bt622.2 = 3 then (some (x9 != 0)) else (some false))))
def laws_FnPackings.j3 : Nat → Int → Bool → Int → List (S75) → Option (Bool)
 | 0, _, _, _, _ => none
 | k + 1, x16, x132, x599000, x599001 => if x132 = true then (some false) else ((impl_FirstPacking.f k x599000 x599001 x16 3000).bind fun bt624 => (if bt624.2.2 = 0 then (if x16 = 1 then (some (bt624.2.2 == 0)) else ((impl_FirstPacking.f k x599000 x599001 (wrap64 (x16 - 1)) 3000).bind fun bt629 => (some (bt629.2.2 == 3)))) else (some (bt624.2.2 == 0))))
def laws_FnPackings.j0 : Nat → Int → List (S37) → Int → Bool → Int → List (S75) → Option (Bool)
 | 0, _, _, _, _, _, _ => none
 | k + 1, x6, x7, x9, x49, x599000, x599001 => if x49 = true then (some false) else ((impl_ActivePairs.f k x599000 x599001 x6 x7).bind fun bt606 => (laws_FnPackings.l0 k x6 x7 x9 bt606.1 bt606.2 (([] : List (S37))) 0 x599000 x599001))
def laws_FnPackings.l0 : Nat → Int → List (S37) → Int → List (S63) → Int → List (S37) → Int → Int → List (S75) → Option (Bool)
 | 0, _, _, _, _, _, _, _, _, _ => none
 | k + 1, x6, x7, x9, x10, x11, x12, x13, x599000, x599001 => if x13 < (x7.length : Int) then (if 0 ≤ x13 then (if x12.length < 8796093022208 then (laws_FnPackings.l0 k x6 x7 x9 x10 x11 (x12 ++ [(⟨(rd_T37 x7 x13).f1, wrap64 (x6 - ((rd_T37 x7 x13).f0))⟩ : S37)]) (wrap64 (x13 + 1)) x599000 x599001) else (none)) else (none)) else ((impl_ActivePairs.f k x599000 x599001 x6 x12).bind fun bt618 => (if x11 = 0 then (if bt618.2 = 0 then (if (bt618.1.length : Int) = (x10.length : Int) then (laws_FnPackings.j2 k x6 x9 x599000 x599001) else (some false)) else (some false)) else (some false)))
end
def laws_FnPackings.f (k : Nat) (l0 : List Int) (l1 : List Int) : Option (Bool) := (laws_a2Long.f l0 l1).bind fun t593 => (if t593 = true then (some true) else ((spec_A2Tree.f k l0 6 3).bind fun bt594 => ((laws_a2Byte.f l1 0 9).bind fun t599 => ((impl_FirstPacking.f k bt594.1 bt594.2 (wrap64 (1 + t599)) 3000).bind fun bt600 => (if bt600.2.2 = 0 then (if bt600.2.1 < (bt600.1.length : Int) then (laws_FnPackings.j0 k (wrap64 (1 + t599)) bt600.1 bt600.2.2 true bt594.1 bt594.2) else (if bt600.2.1 > 3000 then (laws_FnPackings.j0 k (wrap64 (1 + t599)) bt600.1 bt600.2.2 true bt594.1 bt594.2) else ((impl_ValidPacking.f k bt594.1 bt594.2 (wrap64 (1 + t599)) bt600.1).bind fun t605 => (laws_FnPackings.j0 k (wrap64 (1 + t599)) bt600.1 bt600.2.2 (!t605) bt594.1 bt594.2)))) else (laws_FnPackings.j2 k (wrap64 (1 + t599)) bt600.2.2 bt594.1 bt594.2))))))
theorem laws_FnPackings.mono_l : ∀ k, (∀ y0 y1 y2 y3, LeO (laws_FnPackings.j2 k y0 y1 y2 y3) (laws_FnPackings.j2 (k + 1) y0 y1 y2 y3)) ∧ (∀ y0 y1 y2 y3, LeO (laws_FnPackings.j3 k y0 y1 y2 y3) (laws_FnPackings.j3 (k + 1) y0 y1 y2 y3)) ∧ (∀ y0 y1 y2 y3 y4 y5, LeO (laws_FnPackings.j0 k y0 y1 y2 y3 y4 y5) (laws_FnPackings.j0 (k + 1) y0 y1 y2 y3 y4 y5)) ∧ (∀ y0 y1 y2 y3 y4 y5 y6 y7 y8, LeO (laws_FnPackings.l0 k y0 y1 y2 y3 y4 y5 y6 y7 y8) (laws_FnPackings.l0 (k + 1) y0 y1 y2 y3 y4 y5 y6 y7 y8))
 | 0 => ⟨fun _ _ _ _ r h => by simp [laws_FnPackings.j2] at h, fun _ _ _ _ r h => by simp [laws_FnPackings.j3] at h, fun _ _ _ _ _ _ r h => by simp [laws_FnPackings.j0] at h, fun _ _ _ _ _ _ _ _ _ r h => by simp [laws_FnPackings.l0] at h⟩
 | k + 1 => by
  obtain ⟨ih0, ih1, ih2, ih3⟩ := laws_FnPackings.mono_l k
  refine ⟨?_, ?_, ?_, ?_⟩
  ·intro y0 y1 y2 y3
   unfold laws_FnPackings.j2
   repeat' first
   | (with_reducible exact ih0 _ _ _ _)
   | (with_reducible exact ih1 _ _ _ _)
   | (with_reducible exact ih2 _ _ _ _ _ _)
   | (with_reducible exact ih3 _ _ _ _ _ _ _ _ _)
   | (with_reducible exact impl_ActivePairs.mono _ _ _ _ _)
   | (with_reducible exact impl_FirstPacking.mono _ _ _ _ _)
   | (with_reducible exact impl_SmallestSide.mono _ _ _ _ _)
   | (with_reducible exact impl_ValidPacking.mono _ _ _ _ _)
   | (with_reducible exact spec_A2Tree.mono _ _ _ _)
   | (with_reducible exact LeO.refl _)
   | (with_reducible exact LeO.none _)
   | (with_reducible refine LeO.ite ?_ ?_)
   | (with_reducible refine LeO.bind ?_ (fun _ => ?_))
   | exact impl_ActivePairs.mono _ _ _ _ _
   | exact impl_FirstPacking.mono _ _ _ _ _
   | exact impl_SmallestSide.mono _ _ _ _ _
   | exact impl_ValidPacking.mono _ _ _ _ _
   | exact spec_A2Tree.mono _ _ _ _
   | exact LeO.none _
   | refine LeO.ite ?_ ?_
   | refine LeO.bind ?_ (fun _ => ?_)
  ·intro y0 y1 y2 y3
   unfold laws_FnPackings.j3
   repeat' first
   | (with_reducible exact ih0 _ _ _ _)
   | (with_reducible exact ih1 _ _ _ _)
   | (with_reducible exact ih2 _ _ _ _ _ _)
   | (with_reducible exact ih3 _ _ _ _ _ _ _ _ _)
   | (with_reducible exact impl_ActivePairs.mono _ _ _ _ _)
   | (with_reducible exact impl_FirstPacking.mono _ _ _ _ _)
   | (with_reducible exact impl_SmallestSide.mono _ _ _ _ _)
   | (with_reducible exact impl_ValidPacking.mono _ _ _ _ _)
   | (with_reducible exact spec_A2Tree.mono _ _ _ _)
   | (with_reducible exact LeO.refl _)
   | (with_reducible exact LeO.none _)
   | (with_reducible refine LeO.ite ?_ ?_)
   | (with_reducible refine LeO.bind ?_ (fun _ => ?_))
   | exact impl_ActivePairs.mono _ _ _ _ _
   | exact impl_FirstPacking.mono _ _ _ _ _
   | exact impl_SmallestSide.mono _ _ _ _ _
   | exact impl_ValidPacking.mono _ _ _ _ _
   | exact spec_A2Tree.mono _ _ _ _
   | exact LeO.none _
   | refine LeO.ite ?_ ?_
   | refine LeO.bind ?_ (fun _ => ?_)
  ·intro y0 y1 y2 y3 y4 y5
   unfold laws_FnPackings.j0
   repeat' first
   | (with_reducible exact ih0 _ _ _ _)
   | (with_reducible exact ih1 _ _ _ _)
   | (with_reducible exact ih2 _ _ _ _ _ _)
   | (with_reducible exact ih3 _ _ _ _ _ _ _ _ _)
   | (with_reducible exact impl_ActivePairs.mono _ _ _ _ _)
   | (with_reducible exact impl_FirstPacking.mono _ _ _ _ _)
   | (with_reducible exact impl_SmallestSide.mono _ _ _ _ _)
   | (with_reducible exact impl_ValidPacking.mono _ _ _ _ _)
   | (with_reducible exact spec_A2Tree.mono _ _ _ _)
   | (with_reducible exact LeO.refl _)
   | (with_reducible exact LeO.none _)
   | (with_reducible refine LeO.ite ?_ ?_)
   | (with_reducible refine LeO.bind ?_ (fun _ => ?_))
   | exact impl_ActivePairs.mono _ _ _ _ _
   | exact impl_FirstPacking.mono _ _ _ _ _
   | exact impl_SmallestSide.mono _ _ _ _ _
   | exact impl_ValidPacking.mono _ _ _ _ _
   | exact spec_A2Tree.mono _ _ _ _
   | exact LeO.none _
   | refine LeO.ite ?_ ?_
   | refine LeO.bind ?_ (fun _ => ?_)
  ·intro y0 y1 y2 y3 y4 y5 y6 y7 y8
   unfold laws_FnPackings.l0
   repeat' first
   | (with_reducible exact ih0 _ _ _ _)
   | (with_reducible exact ih1 _ _ _ _)
   | (with_reducible exact ih2 _ _ _ _ _ _)
   | (with_reducible exact ih3 _ _ _ _ _ _ _ _ _)
   | (with_reducible exact impl_ActivePairs.mono _ _ _ _ _)
   | (with_reducible exact impl_FirstPacking.mono _ _ _ _ _)
   | (with_reducible exact impl_SmallestSide.mono _ _ _ _ _)
   | (with_reducible exact impl_ValidPacking.mono _ _ _ _ _)
   | (with_reducible exact spec_A2Tree.mono _ _ _ _)
   | (with_reducible exact LeO.refl _)
   | (with_reducible exact LeO.none _)
   | (with_reducible refine LeO.ite ?_ ?_)
   | (with_reducible refine LeO.bind ?_ (fun _ => ?_))
   | exact impl_ActivePairs.mono _ _ _ _ _
   | exact impl_FirstPacking.mono _ _ _ _ _
   | exact impl_SmallestSide.mono _ _ _ _ _
   | exact impl_ValidPacking.mono _ _ _ _ _
   | exact spec_A2Tree.mono _ _ _ _
   | exact LeO.none _
   | refine LeO.ite ?_ ?_
   | refine LeO.bind ?_ (fun _ => ?_)
theorem laws_FnPackings.mono : ∀ a0 a1 k, LeO (laws_FnPackings.f k a0 a1) (laws_FnPackings.f (k + 1) a0 a1) := by
 intro a0 a1 k
 obtain ⟨ih0, ih1, ih2, ih3⟩ := laws_FnPackings.mono_l k
 unfold laws_FnPackings.f
 repeat' first
   | (with_reducible exact ih0 _ _ _ _)
   | (with_reducible exact ih1 _ _ _ _)
   | (with_reducible exact ih2 _ _ _ _ _ _)
   | (with_reducible exact ih3 _ _ _ _ _ _ _ _ _)
   | (with_reducible exact impl_ActivePairs.mono _ _ _ _ _)
   | (with_reducible exact impl_FirstPacking.mono _ _ _ _ _)
   | (with_reducible exact impl_SmallestSide.mono _ _ _ _ _)
   | (with_reducible exact impl_ValidPacking.mono _ _ _ _ _)
   | (with_reducible exact spec_A2Tree.mono _ _ _ _)
   | (with_reducible exact LeO.refl _)
   | (with_reducible exact LeO.none _)
   | (with_reducible refine LeO.ite ?_ ?_)
   | (with_reducible refine LeO.bind ?_ (fun _ => ?_))
   | exact impl_ActivePairs.mono _ _ _ _ _
   | exact impl_FirstPacking.mono _ _ _ _ _
   | exact impl_SmallestSide.mono _ _ _ _ _
   | exact impl_ValidPacking.mono _ _ _ _ _
   | exact spec_A2Tree.mono _ _ _ _
   | exact LeO.none _
   | refine LeO.ite ?_ ?_
   | refine LeO.bind ?_ (fun _ => ?_)
def laws_FnPackings.T14 : Bool × List (List Nat × List Nat) := (true, [([], []), ([], []), ([], []), ([1, 2], [1, 2]), ([3], [3]), ([4], [4]), ([], []), ([], []), ([], []), ([7, 8], [7, 8]), ([9], [9]), ([10], [10]), ([6, 11], [6, 11]), ([5, 12], [5, 12]), ([13], [13]), ([0, 14], [0, 14]), ([15, 15, 0, 1, 2, 3, 4, 5, 6, 7, 8, 9, 10, 11, 12, 13, 14, 15], [0, 15])])
def laws_FnPackings.B14 : List Nat := [0, 0, 0, 6, 14, 30, 0, 0, 0, 384, 896, 1920, 4032, 8190, 16382, 32767, 65535]
theorem laws_FnPackings.tab14 : rtab .any (opsOf Try.f3 14) = laws_FnPackings.T14 := by kernel_rfl
theorem laws_FnPackings.bits14 : waitsOk laws_FnPackings.T14.2 laws_FnPackings.B14 = true := by kernel_rfl
set_option maxHeartbeats 8000000 in
set_option maxRecDepth 100000 in
theorem laws_FnPackings.calls (k : Nat) (A0 : Option Addr) (c0 : Nat) (l0 : List Int) (A1 : Option Addr) (c1 : Nat) (l1 : List Int) (r : Bool) (w : World) (hr0 : Kd.C (Kd.int .u8) w A0 l0.length l0) (hc0 : l0.length ≤ c0) (hr1 : Kd.C (Kd.int .u8) w A1 l1.length l1) (hc1 : l1.length ≤ c1) (h : laws_FnPackings.f k l0 l1 = some r) :
  Calls Try.prog 3 #[.slice A0 l0.length c0, .slice A1 l1.length c1] w fun e w' => e = .returned (.bool r) ∧ Below w.heap.size w w' := by
 have hu26 := Try.underlying26
 have hu37 := Try.underlying37
 have HR0 := Aside0.mk hr0
 have HC0 := Aside0.mk hc0
 clear hr0 hc0
 have HR1 := Aside0.mk hr1
 have HC1 := Aside0.mk hc1
 clear hr1 hc1
 have HB := Aside0.mk (Below.refl w.heap.size w)
 have H : ((laws_a2Long.f l0 l1).bind fun t593 => (if t593 = true then (some true) else ((spec_A2Tree.f k l0 6 3).bind fun bt594 => ((laws_a2Byte.f l1 0 9).bind fun t599 => ((impl_FirstPacking.f k bt594.1 bt594.2 (wrap64 (1 + t599)) 3000).bind fun bt600 => (if bt600.2.2 = 0 then (if bt600.2.1 < (bt600.1.length : Int) then (laws_FnPackings.j0 k (wrap64 (1 + t599)) bt600.1 bt600.2.2 true bt594.1 bt594.2) else (if bt600.2.1 > 3000 then (laws_FnPackings.j0 k (wrap64 (1 + t599)) bt600.1 bt600.2.2 true bt594.1 bt594.2) else ((impl_ValidPacking.f k bt594.1 bt594.2 (wrap64 (1 + t599)) bt600.1).bind fun t605 => (laws_FnPackings.j0 k (wrap64 (1 + t599)) bt600.1 bt600.2.2 (!t605) bt594.1 bt594.2)))) else (laws_FnPackings.j2 k (wrap64 (1 + t599)) bt600.2.2 bt594.1 bt594.2))))))) = some r := h
 clear h
 replace H := Option.bind_eq_some_iff.mp H
 obtain ⟨t593, A30, H⟩ := H
 replace H : (if t593 = true then (some true) else ((spec_A2Tree.f k l0 6 3).bind fun bt594 => ((laws_a2Byte.f l1 0 9).bind fun t599 => ((impl_FirstPacking.f k bt594.1 bt594.2 (wrap64 (1 + t599)) 3000).bind fun bt600 => (if bt600.2.2 = 0 then (if bt600.2.1 < (bt600.1.length : Int) then (laws_FnPackings.j0 k (wrap64 (1 + t599)) bt600.1 bt600.2.2 true bt594.1 bt594.2) else (if bt600.2.1 > 3000 then (laws_FnPackings.j0 k (wrap64 (1 + t599)) bt600.1 bt600.2.2 true bt594.1 bt594.2) else ((impl_ValidPacking.f k bt594.1 bt594.2 (wrap64 (1 + t599)) bt600.1).bind fun t605 => (laws_FnPackings.j0 k (wrap64 (1 + t599)) bt600.1 bt600.2.2 (!t605) bt594.1 bt594.2)))) else (laws_FnPackings.j2 k (wrap64 (1 + t599)) bt600.2.2 bt594.1 bt594.2)))))) = some r := H
 have A3 := Aside0.mk A30
 clear A30
 by_cases c4 : t593 = true
 ·subst c4
  have H1 : (some true) = some r := by rw [if_pos rfl] at H; exact H
  clear H
  have H := H1
  clear H1
  obtain rfl := Option.some.inj H
  go_enter Try.func3, Try.ntmps3
  go_wp2_with (first | ((with_reducible refine gate_callee (f := 6) rfl ?_); refine goesL_ (some 20) rfl rfl Try.func6 (by kernel_rfl) rfl #[.slice A0 l0.length c0, .slice A1 l1.length c1] rfl mp_ ?_; (with_reducible refine (laws_a2Long.calls _ _ l0 _ _ l1 true _ ?side1 ?side2 ?side3 ?side4 A3.out).mono ?_); (case side1 => repeat (first | exact HR0.out | (with_reducible refine Kd.C_alloc ?_ _) | (with_reducible refine Kd.C_drewN ?_ _) | (with_reducible refine Kd.C_drew ?_))); (case side2 => exact HC0.out); (case side3 => repeat (first | exact HR1.out | (with_reducible refine Kd.C_alloc ?_ _) | (with_reducible refine Kd.C_drewN ?_ _) | (with_reducible refine Kd.C_drew ?_))); (case side4 => exact HC1.out); rintro e w' ⟨rfl, ⟨nd, rfl⟩⟩; refine ⟨_, rfl, ?_⟩))
  go_ret
  exact ⟨re_, bl0_ HB.out⟩
 ·replace c4 := Bool.eq_false_iff.mpr c4
  subst c4
  have H1 : ((spec_A2Tree.f k l0 6 3).bind fun bt594 => ((laws_a2Byte.f l1 0 9).bind fun t599 => ((impl_FirstPacking.f k bt594.1 bt594.2 (wrap64 (1 + t599)) 3000).bind fun bt600 => (if bt600.2.2 = 0 then (if bt600.2.1 < (bt600.1.length : Int) then (laws_FnPackings.j0 k (wrap64 (1 + t599)) bt600.1 bt600.2.2 true bt594.1 bt594.2) else (if bt600.2.1 > 3000 then (laws_FnPackings.j0 k (wrap64 (1 + t599)) bt600.1 bt600.2.2 true bt594.1 bt594.2) else ((impl_ValidPacking.f k bt594.1 bt594.2 (wrap64 (1 + t599)) bt600.1).bind fun t605 => (laws_FnPackings.j0 k (wrap64 (1 + t599)) bt600.1 bt600.2.2 (!t605) bt594.1 bt594.2)))) else (laws_FnPackings.j2 k (wrap64 (1 + t599)) bt600.2.2 bt594.1 bt594.2))))) = some r := by rw [if_neg (show ¬ (false = true) by decide)] at H; exact H
  clear H
  have H := H1
  clear H1
  replace H := Option.bind_eq_some_iff.mp H
  obtain ⟨⟨t594, t595⟩, A50, H⟩ := H
  replace H : ((laws_a2Byte.f l1 0 9).bind fun t599 => ((impl_FirstPacking.f k t594 t595 (wrap64 (1 + t599)) 3000).bind fun bt600 => (if bt600.2.2 = 0 then (if bt600.2.1 < (bt600.1.length : Int) then (laws_FnPackings.j0 k (wrap64 (1 + t599)) bt600.1 bt600.2.2 true t594 t595) else (if bt600.2.1 > 3000 then (laws_FnPackings.j0 k (wrap64 (1 + t599)) bt600.1 bt600.2.2 true t594 t595) else ((impl_ValidPacking.f k t594 t595 (wrap64 (1 + t599)) bt600.1).bind fun t605 => (laws_FnPackings.j0 k (wrap64 (1 + t599)) bt600.1 bt600.2.2 (!t605) t594 t595)))) else (laws_FnPackings.j2 k (wrap64 (1 + t599)) bt600.2.2 t594 t595)))) = some r := H
  have A5 := Aside0.mk A50
  clear A50
  replace H := Option.bind_eq_some_iff.mp H
  obtain ⟨t599, A60, H⟩ := H
  replace H : ((impl_FirstPacking.f k t594 t595 (wrap64 (1 + t599)) 3000).bind fun bt600 => (if bt600.2.2 = 0 then (if bt600.2.1 < (bt600.1.length : Int) then (laws_FnPackings.j0 k (wrap64 (1 + t599)) bt600.1 bt600.2.2 true t594 t595) else (if bt600.2.1 > 3000 then (laws_FnPackings.j0 k (wrap64 (1 + t599)) bt600.1 bt600.2.2 true t594 t595) else ((impl_ValidPacking.f k t594 t595 (wrap64 (1 + t599)) bt600.1).bind fun t605 => (laws_FnPackings.j0 k (wrap64 (1 + t599)) bt600.1 bt600.2.2 (!t605) t594 t595)))) else (laws_FnPackings.j2 k (wrap64 (1 + t599)) bt600.2.2 t594 t595))) = some r := H
  have A6 := Aside0.mk A60
  clear A60
  replace H := Option.bind_eq_some_iff.mp H
  obtain ⟨⟨t600, t603, t604⟩, A70, H⟩ := H
  replace H : (if t604 = 0 then (if t603 < (t600.length : Int) then (laws_FnPackings.j0 k (wrap64 (1 + t599)) t600 t604 true t594 t595) else (if t603 > 3000 then (laws_FnPackings.j0 k (wrap64 (1 + t599)) t600 t604 true t594 t595) else ((impl_ValidPacking.f k t594 t595 (wrap64 (1 + t599)) t600).bind fun t605 => (laws_FnPackings.j0 k (wrap64 (1 + t599)) t600 t604 (!t605) t594 t595)))) else (laws_FnPackings.j2 k (wrap64 (1 + t599)) t604 t594 t595)) = some r := H
  have A7 := Aside0.mk A70
  clear A70
  have HC8 := Aside0.mk H
  clear H
  go_enter Try.func3, Try.ntmps3
  go_upto_if 34 with (first | ((with_reducible refine gate_callee (f := 6) rfl ?_); refine goesL_ (some 20) rfl rfl Try.func6 (by kernel_rfl) rfl #[.slice A0 l0.length c0, .slice A1 l1.length c1] rfl mp_ ?_; (with_reducible refine (laws_a2Long.calls _ _ l0 _ _ l1 false _ ?side1 ?side2 ?side3 ?side4 A3.out).mono ?_); (case side1 => repeat (first | exact HR0.out | (with_reducible refine Kd.C_alloc ?_ _) | (with_reducible refine Kd.C_drewN ?_ _) | (with_reducible refine Kd.C_drew ?_))); (case side2 => exact HC0.out); (case side3 => repeat (first | exact HR1.out | (with_reducible refine Kd.C_alloc ?_ _) | (with_reducible refine Kd.C_drewN ?_ _) | (with_reducible refine Kd.C_drew ?_))); (case side4 => exact HC1.out); rintro e w' ⟨rfl, ⟨nd, rfl⟩⟩; refine ⟨_, rfl, ?_⟩) | ((with_reducible refine gate_callee (f := 7) rfl ?_); refine goesL_ (some 22) rfl rfl Try.func7 (by kernel_rfl) rfl #[.slice A0 l0.length c0, .int .i64 6, .int .i64 3] rfl mp_ ?_; (with_reducible refine (spec_A2Tree.calls k _ _ l0 6 3 t594 t595 _ ?side1 ?side2 A5.out).mono ?_); (case side1 => repeat (first | exact HR0.out | (with_reducible refine Kd.C_alloc ?_ _) | (with_reducible refine Kd.C_drewN ?_ _) | (with_reducible refine Kd.C_drew ?_))); (case side2 => exact HC0.out); rintro e w9 ⟨v596, rfl, ho0, hb⟩; refine ⟨_, rfl, ?_⟩; have n0_ := Aside0.mk (Kd.R_lower ho0 (below_size (bl0_ HB.out))); have n1_ := Aside0.mk (below_step (bl0_ HB.out) hb); clear HB; have HO597 := n0_; have HB := n1_; clear n0_ n1_; (try clear hb); (try clear hb2); (try clear hk); (try clear hi); (try clear ho0)) | ((with_reducible refine gate_dst (N := 5) rfl ?_); (try (refine gate_guard (by rfl) ?_; dsimp only)); refine box_event ?hg (N := 5) ?hd (cs := #[.int .i64 0, .slice none 0 0]) (t := 26) ?hr ?_; (case hd => rfl); (case hg => rfl); (case hr => first | (go_simp; done) | (go_simp; rfl)); intro gb598 hg w10 hbox hb; have n0_ := Aside0.mk (Kd.R_below (ra_ HO597.out) hb); have n1_ := Aside0.mk (below_step (bl0_ HB.out) hb); have n2_ := Aside0.mk (hbox); have n3_ := Aside0.mk ((by rw [hg]; exact (below_size (bl0_ HB.out)) : w.heap.size ≤ gb598)); have n4_ := Aside0.mk ((by rw [hg]; exact (below_size (bl0_ HB.out)) : w.heap.size ≤ gb598)); clear HO597; clear HB; have HO597 := n0_; have HB := n1_; have BK598 := n2_; have GW598 := n3_; have GE598 := n4_; clear n0_ n1_ n2_ n3_ n4_; clear hb hbox hg; obtain ⟨hcz11_0, hcz11_1, hfz11_0, hfz11_1⟩ := cz2_ BK598.out; obtain ⟨Ao12, co12, eo12⟩ := Kd.R_slice HO597.out; subst eo12) | ((with_reducible refine gate_callee (f := 8) rfl ?_); refine goesL_ (some 24) rfl rfl Try.func8 (by kernel_rfl) rfl #[.slice A1 l1.length c1, .int .i64 0, .int .i64 9] rfl mp_ ?_; (with_reducible refine (laws_a2Byte.calls _ _ l1 0 9 t599 _ ?side1 ?side2 A6.out).mono ?_); (case side1 => exact Kd.C_below HR1.out (bl1_ HB.out GE598.out)); (case side2 => exact HC1.out); rintro e w' ⟨rfl, ⟨nd, rfl⟩⟩; refine ⟨_, rfl, ?_⟩) | ((with_reducible refine gate_callee (f := 9) rfl ?_); refine goesL_ (some 29) rfl rfl Try.func9 (by kernel_rfl) rfl #[.agg #[.int .i64 t594, .slice Ao12 t595.length co12], .int .i64 (wrap64 (1 + t599)), .int .i64 3000] rfl mp_ ?_; (with_reducible refine (impl_FirstPacking.calls k t594 _ _ t595 (wrap64 (1 + t599)) 3000 t600 t603 t604 _ ?side1 ?side2 A7.out).mono ?_); (case side1 => refine (Kd.R_reads' (e := 75) (base := w.heap.size) (ok := fun k_ => True) (n := t595.length) (c := co12) ?_).2.2; exact (by (with_reducible repeat (first | apply Kd.R_alloc | apply Kd.R_drewN | apply Kd.R_drew)); exact (Kd.R_mono (Kd.R_far (p := ⟨gb598, 1, none⟩) (Kd.R_far (p := ⟨gb598, 0, none⟩) (Kd.R_types HO597.out BK598.out (by decide)) (fun _ hk => hk.2) (.int .i64 t594)) (fun _ hk => hk.2) (.slice Ao12 t595.length co12)) (fun _ h_ => h_.1)))); (case side2 => exact (Kd.R_reads' HO597.out).2.1); rintro e w13 ⟨v601, rfl, ho0, hb⟩; refine ⟨_, rfl, ?_⟩; have n0_ := Aside0.mk (Kd.R_below (by (with_reducible repeat (first | apply Kd.R_alloc | apply Kd.R_drewN | apply Kd.R_drew)); exact (Kd.R_mono (Kd.R_far (p := ⟨gb598, 1, none⟩) (Kd.R_far (p := ⟨gb598, 0, none⟩) (Kd.R_types HO597.out BK598.out (by decide)) (fun _ hk => hk.2) (.int .i64 t594)) (fun _ hk => hk.2) (.slice Ao12 t595.length co12)) (fun _ h_ => h_.1))) hb); have n1_ := Aside0.mk (Kd.R_lower ho0 (below_size (bl1_ HB.out GE598.out))); have n2_ := Aside0.mk (blk_below (g := gb598) (o := .cells #[.int .i64 t594, .slice Ao12 t595.length co12] 26 (0, 0)) (by (with_reducible repeat (first | refine blk_drewN ?_ _ | refine blk_drew ?_ | refine blk_alloc ?_ _)); refine blk_put (cs := #[.int .i64 t594, .slice none 0 0]) ?_ 1 _ rfl; (with_reducible repeat (first | refine blk_drewN ?_ _ | refine blk_drew ?_ | refine blk_alloc ?_ _)); refine blk_put (cs := #[.int .i64 0, .slice none 0 0]) ?_ 0 _ rfl; (with_reducible repeat (first | refine blk_drewN ?_ _ | refine blk_drew ?_ | refine blk_alloc ?_ _)); exact BK598.out) hb); have n3_ := Aside0.mk (below_step (bl1_ HB.out GE598.out) hb); clear HO597; clear BK598; clear HB; have HO597 := n0_; have HO602 := n1_; have BK598 := n2_; have HB := n3_; clear n0_ n1_ n2_ n3_; (try clear hb); (try clear hb2); (try clear hk); (try clear hi); (try clear ho0)))
  (try simp only [Act.put, List.setIfInBounds_toArray, List.set_cons_zero, List.set_cons_succ])
  go_cut [] (fun wc => ∃ (kq : Nat), Aside0 (laws_FnPackings.j2 kq (wrap64 (1 + t599)) t604 t594 t595 = some r) ∧ Aside0 (kq ≤ k) ∧ Aside0 (Kd.R k75 75 wc w.heap.size (fun _ => True) (.slice Ao12 t595.length co12) t595) ∧ Aside0 (wc.heap[gb598]? = some (.cells #[.int .i64 t594, (.slice Ao12 t595.length co12)] 26 (0, 0))) ∧ Aside0 (Below w.heap.size w wc))
  case first =>
   have H := HC8.out
   clear HC8
   by_cases c14 : t604 = 0
   ·rw [if_pos c14] at H
    have c14b0 : (t604 == 0) = true := beq_iff_eq.mpr c14
    have c14b1 : (t604 != 0) = false := bne_eq_false_iff_eq.mpr c14
    clear c14
    (first | rw [c14b0] | (simp only [i64_w, i32_w]; rw [c14b0]) | skip)
    have HC15 := Aside0.mk H
    clear H
    go_upto_region 7 with (fail)
    go_cut [49] (fun v49 wc => ∃ (kq : Nat) (x49_14 : Bool), v49 = .bool x49_14 ∧ Aside0 (laws_FnPackings.j0 kq (wrap64 (1 + t599)) t600 t604 x49_14 t594 t595 = some r) ∧ Aside0 (kq ≤ k) ∧ Aside0 (Kd.R k37 37 wc w.heap.size (fun _ => True) v601 t600) ∧ Aside0 (Kd.R k75 75 wc w.heap.size (fun _ => True) (.slice Ao12 t595.length co12) t595) ∧ Aside0 (wc.heap[gb598]? = some (.cells #[.int .i64 t594, (.slice Ao12 t595.length co12)] 26 (0, 0))) ∧ Aside0 (Below w.heap.size w wc))
    case first =>
     have H := HC15.out
     clear HC15
     by_cases c16 : t603 < (t600.length : Int)
     ·rw [if_pos c16] at H
      have c16b0 := decide_eq_true c16
      clear c16
      (first | rw [c16b0] | (simp only [i64_w, i32_w]; rw [c16b0]) | skip)
      have H' := Aside0.mk H
      clear H
      obtain ⟨Ao17, co17, eo17⟩ := Kd.R_slice HO602.out
      subst eo17
      go_wp2
      go_meet
      case rel => exact ⟨_, (true), rs_, H', ⟨by first | omega | exact Nat.le_refl _⟩, ⟨ra_ HO602.out⟩, ⟨ra_ HO597.out⟩, ⟨bk_ BK598.out⟩, ⟨bl1_ HB.out GE598.out⟩⟩
     ·rw [if_neg c16] at H
      have c16b0 := decide_eq_false c16
      clear c16
      (first | rw [c16b0] | (simp only [i64_w, i32_w]; rw [c16b0]) | skip)
      by_cases c18 : t603 > 3000
      ·rw [if_pos c18] at H
       have c18b0 : decide (3000 < t603) = true := decide_eq_true c18
       clear c18
       have H' := Aside0.mk H
       clear H
       obtain ⟨Ao19, co19, eo19⟩ := Kd.R_slice HO602.out
       subst eo19
       go_wp2
       go_meet
       case rel => exact ⟨_, (true), rs_, H', ⟨by first | omega | exact Nat.le_refl _⟩, ⟨ra_ HO602.out⟩, ⟨ra_ HO597.out⟩, ⟨bk_ BK598.out⟩, ⟨bl1_ HB.out GE598.out⟩⟩
      ·rw [if_neg c18] at H
       have c18b0 : decide (3000 < t603) = false := decide_eq_false c18
       clear c18
       replace H := Option.bind_eq_some_iff.mp H
       obtain ⟨t605, A200, H⟩ := H
       replace H : (laws_FnPackings.j0 k (wrap64 (1 + t599)) t600 t604 (!t605) t594 t595) = some r := H
       have A20 := Aside0.mk A200
       clear A200
       have H' := Aside0.mk H
       clear H
       obtain ⟨Ao21, co21, eo21⟩ := Kd.R_slice HO602.out
       subst eo21
       obtain ⟨hcz22_0, hcz22_1, hfz22_0, hfz22_1⟩ := cz2_ BK598.out
       go_wp2_with (first | (go_at_call 10; (with_reducible refine (impl_ValidPacking.calls k t594 _ _ t595 (wrap64 (1 + t599)) _ _ t600 t605 _ ?side1 ?side2 ?side3 ?side4 A20.out).mono ?_); (case side1 => exact ca_ (Kd.R_reads' HO597.out).2.2); (case side2 => exact (Kd.R_reads' HO597.out).2.1); (case side3 => exact ca_ (Kd.R_reads' HO602.out).2.2); (case side4 => exact (Kd.R_reads' HO602.out).2.1); rintro e w23 ⟨rfl, hb⟩; have n0_ := Aside0.mk (Kd.R_below (ra_ HO597.out) hb); have n1_ := Aside0.mk (Kd.R_below (ra_ HO602.out) hb); have n2_ := Aside0.mk (blk_below (g := gb598) (o := .cells #[.int .i64 t594, .slice Ao12 t595.length co12] 26 (0, 0)) (bk_ BK598.out) hb); have n3_ := Aside0.mk (below_step (bl1_ HB.out GE598.out) hb); clear HO597; clear HO602; clear BK598; clear HB; have HO597 := n0_; have HO602 := n1_; have BK598 := n2_; have HB := n3_; clear n0_ n1_ n2_ n3_; (try clear hb); (try clear hb2); (try clear hk); (try clear hi)))
       go_meet
       case rel => exact ⟨_, (!t605), rs_, H', ⟨by first | omega | exact Nat.le_refl _⟩, ⟨ra_ HO602.out⟩, ⟨ra_ HO597.out⟩, ⟨bk_ BK598.out⟩, ⟨bl1_ HB.out GE598.out⟩⟩
    case rest =>
     clear HC15
     try clear c1
     try clear p2
     try clear c3
     try clear c4
     try clear c6
     try clear p6
     try clear c7
     try clear c8
     try clear c9
     try clear c14
     try clear c14b0
     try clear c14b1
     try clear c16
     try clear c16b0
     try clear c18
     try clear c18b0
     try clear hcz11_0
     try clear hcz11_1
     try clear hcz22_0
     try clear hcz22_1
     try clear hfz11_0
     try clear hfz11_1
     try clear hfz22_0
     try clear hfz22_1
     obtain ⟨kq, x49_14, rfl, HA, HJ14, HO_7, HO_599001, BK598, HB⟩ := hcut
     cases kq with
     | zero => exact absurd HA.out (by simp [laws_FnPackings.j0])
     | succ kj14 =>
      have H := HA.out
      clear HA
      simp only [laws_FnPackings.j0] at H
      by_cases c24 : x49_14 = true
      ·subst c24
       have H1 : (some false) = some r := by rw [if_pos rfl] at H; exact H
       clear H
       have H := H1
       clear H1
       obtain rfl := Option.some.inj H
       go_wp2
       go_ret
       exact ⟨re_, bl1_ HB.out GE598.out⟩
      ·replace c24 := Bool.eq_false_iff.mpr c24
       subst c24
       have H1 : ((impl_ActivePairs.f kj14 t594 t595 (wrap64 (1 + t599)) t600).bind fun bt606 => (laws_FnPackings.l0 kj14 (wrap64 (1 + t599)) t600 t604 bt606.1 bt606.2 (([] : List (S37))) 0 t594 t595)) = some r := by rw [if_neg (show ¬ (false = true) by decide)] at H; exact H
       clear H
       have H := H1
       clear H1
       replace H := Option.bind_eq_some_iff.mp H
       obtain ⟨⟨t606, t609⟩, A250, H⟩ := H
       replace H : (laws_FnPackings.l0 kj14 (wrap64 (1 + t599)) t600 t604 t606 t609 (([] : List (S37))) 0 t594 t595) = some r := H
       have A25 := Aside0.mk A250
       clear A250
       obtain ⟨y610, hy610⟩ : ∃ y_ : List (S37), y_ = (([] : List (S37))) := ⟨_, rfl⟩
       replace H : (laws_FnPackings.l0 kj14 (wrap64 (1 + t599)) t600 t604 t606 t609 y610 0 t594 t595) = some r := yh_ H hy610
       have Ny610 := Aside0.mk hy610
       clear hy610
       have H' := Aside0.mk H
       clear H
       obtain ⟨hcz26_0, hcz26_1, hfz26_0, hfz26_1⟩ := cz2_ BK598.out
       obtain ⟨Ao27, co27, eo27⟩ := Kd.R_slice HO_7.out
       subst eo27
       go_wp2_with (first | ((with_reducible refine gate_callee (f := 11) rfl ?_); refine goesL_ (some 54) rfl rfl Try.func11 (by kernel_rfl) rfl #[.agg #[.int .i64 t594, .slice Ao12 t595.length co12], .int .i64 (wrap64 (1 + t599)), .slice Ao27 t600.length co27] rfl mp_ ?_; (with_reducible refine (impl_ActivePairs.calls kj14 t594 _ _ t595 (wrap64 (1 + t599)) _ _ t600 t606 t609 _ ?side1 ?side2 ?side3 ?side4 A25.out).mono ?_); (case side1 => exact ca_ (Kd.R_reads' HO_599001.out).2.2); (case side2 => exact (Kd.R_reads' HO_599001.out).2.1); (case side3 => exact ca_ (Kd.R_reads' HO_7.out).2.2); (case side4 => exact (Kd.R_reads' HO_7.out).2.1); rintro e w28 ⟨v607, rfl, ho0, hb⟩; refine ⟨_, rfl, ?_⟩; have n0_ := Aside0.mk (Kd.R_below (ra_ HO_7.out) hb); have n1_ := Aside0.mk (Kd.R_below (ra_ HO_599001.out) hb); have n2_ := Aside0.mk (Kd.R_lower ho0 (below_size (bl1_ HB.out GE598.out))); have n3_ := Aside0.mk (blk_below (g := gb598) (o := .cells #[.int .i64 t594, .slice Ao12 t595.length co12] 26 (0, 0)) (bk_ BK598.out) hb); have n4_ := Aside0.mk (below_step (bl1_ HB.out GE598.out) hb); clear HO_7; clear HO_599001; clear BK598; clear HB; have HO_7 := n0_; have HO_599001 := n1_; have HO608 := n2_; have BK598 := n3_; have HB := n4_; clear n0_ n1_ n2_ n3_ n4_; (try clear hb); (try clear hb2); (try clear hk); (try clear hi); (try clear ho0)) | ((with_reducible refine gate_dst (N := 57) rfl ?_); (try (refine gate_guard (by rfl) ?_; dsimp only)); refine Kd.R_lit k37 _ 37 ?hg (N := 57) ?hd (xs := ([] : List (S37))) (inner := []) (ok := fun _ => True) (okp := fun _ => True) ?hr ?hp (fun _ hk => hk) trivial (Below.refl _ _) (Nat.le_refl _) (by simp) ?_; (case hd => rfl); (case hg => rfl); (case hr => first | (go_simp; done) | (go_simp; rfl)); (case hp => exact (Reps.none _ _)); intro v611 w29 ho30 hb hg_ hnew_; clear hg_ hnew_; (first | rw [← Ny610.out] at ho30 | (simp only [Int.reduceToNat] at ho30; rw [← Ny610.out] at ho30)); have n0_ := Aside0.mk (Kd.R_elder' (ra_ HO_7.out) (Kd.R_base ho30) hb); have n1_ := Aside0.mk (Kd.R_below (ra_ HO_599001.out) hb); have n2_ := Aside0.mk (Kd.R_below (ra_ HO608.out) hb); have n3_ := Aside0.mk (Kd.R_lower (Kd.R_new' ho30 (Kd.R_lt (ra_ HO_7.out))) (below_size (bl1_ HB.out GE598.out))); have n4_ := Aside0.mk (blk_below (g := gb598) (o := .cells #[.int .i64 t594, .slice Ao12 t595.length co12] 26 (0, 0)) (bk_ BK598.out) hb); have n5_ := Aside0.mk (below_step (bl1_ HB.out GE598.out) hb); clear HO_7; clear HO_599001; clear HO608; clear BK598; clear HB; have HO_7 := n0_; have HO_599001 := n1_; have HO608 := n2_; have HO612 := n3_; have BK598 := n4_; have HB := n5_; clear n0_ n1_ n2_ n3_ n4_ n5_; clear hb ho30))
       go_loopg [12, 13] kj14 (fun kq v12 v13 w' => ∃ (x12_2 : List (S37)) (x13_2 : Int), v13 = .int .i64 x13_2 ∧ Aside0 (laws_FnPackings.l0 kq (wrap64 (1 + t599)) t600 t604 t606 t609 x12_2 x13_2 t594 t595 = some r) ∧ Aside0 (kq ≤ kj14) ∧ Aside0 (Kd.R k37 37 w' w.heap.size (fun k_ => some k_ ≠ (v12 : Value).ownBlock) (.slice Ao27 t600.length co27) t600) ∧ Aside0 (Kd.R k63 63 w' w.heap.size (fun _ => True) v607 t606) ∧ Aside0 (Kd.R k37 37 w' w.heap.size (fun k_ => some k_ ≠ ((.slice Ao27 t600.length co27) : Value).ownBlock) v12 x12_2) ∧ Aside0 (Kd.R k75 75 w' w.heap.size (fun _ => True) (.slice Ao12 t595.length co12) t595) ∧ Aside0 (w'.heap[gb598]? = some (.cells #[.int .i64 t594, (.slice Ao12 t595.length co12)] 26 (0, 0))) ∧ Aside0 (Below w.heap.size w w'))
       case atStart => exact ⟨(y610), (0), rs_, H', ⟨Nat.le_refl _⟩, ⟨by (with_reducible repeat (first | apply Kd.R_alloc | apply Kd.R_drewN | apply Kd.R_drew)); exact Kd.R_mono HO_7.out (fun _ hk => hk.2)⟩, ⟨ra_ HO608.out⟩, ⟨by (with_reducible repeat (first | apply Kd.R_alloc | apply Kd.R_drewN | apply Kd.R_drew)); exact Kd.R_mono HO612.out (fun _ hk => hk.2)⟩, ⟨ra_ HO_599001.out⟩, ⟨bk_ BK598.out⟩, ⟨bl1_ HB.out GE598.out⟩⟩
       case round =>
        clear H'
        try clear c1
        try clear c2
        try clear p2
        try clear c3
        try clear c4
        try clear c6
        try clear p6
        try clear c7
        try clear c8
        try clear c9
        try clear c11
        try clear c14
        try clear c14b0
        try clear c14b1
        try clear c16
        try clear c16b0
        try clear c18
        try clear c18b0
        try clear c24
        try clear hcz11_0
        try clear hcz11_1
        try clear hcz22_0
        try clear hcz22_1
        try clear hcz26_0
        try clear hcz26_1
        try clear hfz11_0
        try clear hfz11_1
        try clear hfz22_0
        try clear hfz22_1
        try clear hfz26_0
        try clear hfz26_1
        try clear p2
        try clear p6
        obtain ⟨x12_2, x13_2, rfl, HA, HK2, HO_7, HO_10, HO_12, HO_599001, BK598, HB⟩ := hrel
        cases gk with
        | zero => exact absurd HA.out (by simp [laws_FnPackings.l0])
        | succ k2 =>
         have H := HA.out
         clear HA
         simp only [laws_FnPackings.l0] at H
         by_cases c31 : x13_2 < (t600.length : Int)
         ·rw [if_pos c31] at H
          have c31b0 := decide_eq_true c31
          clear c31
          by_cases c32 : 0 ≤ x13_2
          rotate_left
          ·exact nope_ c32 H
          rw [if_pos c32] at H
          have c32b0 := decide_eq_true c32
          clear c32
          by_cases c33 : x12_2.length < 8796093022208
          rotate_left
          ·exact nope_ c33 H
          rw [if_pos c33] at H
          have LMc33 := Aside0.mk c33
          clear c33
          obtain ⟨y615, hy615⟩ : ∃ y_ : List (S37), y_ = (x12_2 ++ [(⟨(rd_T37 t600 x13_2).f1, wrap64 ((wrap64 (1 + t599)) - ((rd_T37 t600 x13_2).f0))⟩ : S37)]) := ⟨_, rfl⟩
          replace H : (laws_FnPackings.l0 k2 (wrap64 (1 + t599)) t600 t604 t606 t609 y615 (wrap64 (x13_2 + 1)) t594 t595) = some r := yh_ H hy615
          have Ny615 := Aside0.mk hy615
          clear hy615
          have H' := Aside0.mk H
          clear H
          try go_wp2
          have n0_ := Aside0.mk (Kd.R_drew HO_7.out)
          have n1_ := Aside0.mk (Kd.R_drew HO_10.out)
          have n2_ := Aside0.mk (Kd.R_drew HO_12.out)
          have n3_ := Aside0.mk (Kd.R_drew HO_599001.out)
          have n4_ := Aside0.mk (blk_drew BK598.out)
          have n5_ := Aside0.mk (below_drew1 HB.out)
          clear HO_7
          clear HO_10
          clear HO_12
          clear HO_599001
          clear BK598
          clear HB
          have HO_7 := n0_
          have HO_10 := n1_
          have HO_12 := n2_
          have HO_599001 := n3_
          have BK598 := n4_
          have HB := n5_
          clear n0_ n1_ n2_ n3_ n4_ n5_
          have p613 : 0 ≤ (x13_2 : Int) := od_
          have q613 : x13_2 < (t600.length : Int) := od_
          obtain ⟨ad613, e613, hx613_0, hx613_1⟩ := at_T37 (Kd.R_reads' HO_7.out).2.2 x13_2 p613 q613
          cases e613
          replace p613 := eq_true p613
          replace q613 := eq_true q613
          have p614 : 0 ≤ (x13_2 : Int) := od_
          have q614 : x13_2 < (t600.length : Int) := od_
          obtain ⟨ad614, e614, hx614_0, hx614_1⟩ := at_T37 (Kd.R_reads' HO_7.out).2.2 x13_2 p614 q614
          obtain rfl : ad613 = ad614 := (by injection e614)
          replace p614 := eq_true p614
          replace q614 := eq_true q614
          refine start_ (n := 17) (S := fun w' => w'.cell? (ad613.add ((x13_2).toNat * 2)) = some (.int .i64 ((rd_T37 t600 x13_2).f0)) ∧ w'.cell? ⟨(ad613.add ((x13_2).toNat * 2)).block, (ad613.add ((x13_2).toNat * 2)).off + 1, none⟩ = some (.int .i64 ((rd_T37 t600 x13_2).f1)) ∧ w'.cell? (ad613.add ((x13_2).toNat * 2)) = some (.int .i64 ((rd_T37 t600 x13_2).f0)) ∧ w'.cell? ⟨(ad613.add ((x13_2).toNat * 2)).block, (ad613.add ((x13_2).toNat * 2)).off + 1, none⟩ = some (.int .i64 ((rd_T37 t600 x13_2).f1))) (ds := [14, 15]) (nb_ 17 0) (by kernel_rfl) rfl rfl ⟨hx613_0, hx613_1, hx614_0, hx614_1⟩ (fun hHeld => ?_); refine with_tabW laws_FnPackings.tab14 laws_FnPackings.bits14 (fun HT_ HW_ => ?_)
          generalize wr.drew = w34 at HO_7 HO_10 HO_12 HO_599001 BK598 HB hx613_0 hx613_1 hx614_0 hx614_1 hHeld ⊢
          refine puz_ 0 (some 64) (nb_ 17 1) rfl rfl (any_of HT_.out (by kernel_rfl)) ?_
          refine puz_ 1 (some 65) (nb_ 17 3) rfl rfl (any_of HT_.out (by kernel_rfl)) ?_
          refine puz_ 2 (some 66) (nb_ 17 7) rfl rfl (any_of HT_.out (by kernel_rfl)) ?_
          refine puz_ 3 (some 67) (nb_ 17 15) rfl rfl (any_of HT_.out (by kernel_rfl)) ?_
          refine puz_ 4 (some 68) (nb_ 17 31) rfl rfl (any_of HT_.out (by kernel_rfl)) ?_
          refine puz_ 6 (some 70) (nb_ 17 95) rfl rfl (any_of HT_.out (by kernel_rfl)) ?_
          refine puz_ 7 (some 71) (nb_ 17 223) rfl rfl (any_of HT_.out (by kernel_rfl)) ?_
          refine puz_ 8 (some 72) (nb_ 17 479) rfl rfl (any_of HT_.out (by kernel_rfl)) ?_
          refine puz_ 9 (some 73) (nb_ 17 991) rfl rfl (any_of HT_.out (by kernel_rfl)) ?_
          refine puz_ 10 (some 74) (nb_ 17 2015) rfl rfl (any_of HT_.out (by kernel_rfl)) ?_
          refine tkz_ 5 (some 69) (nb_ 17 2047) rfl rfl (take_ofW HT_.out HW_.out (by kernel_rfl)) hHeld ?_
          refine tkz_ 11 (some 75) (nb_ 17 4095) rfl rfl (take_ofW HT_.out HW_.out (by kernel_rfl)) hHeld ?_
          refine puz_ 12 (some 76) (nb_ 17 8191) rfl rfl (any_of HT_.out (by kernel_rfl)) ?_
          refine puz_ 13 (some 77) (nb_ 17 16383) rfl rfl (any_of HT_.out (by kernel_rfl)) ?_
          refine last_ (i := 14) (N := some 78) (nb_ 17 32767) rfl rfl (one_of HT_.out (by kernel_rfl)) (by decide) (fun K hK => ?_)
          refine value_ (w1 := ?_) (v := ?_) (by rfl) rfl ?_ ?_
          rotate_left 2
          ·go_simp
           constructor
           ·rfl
           ·rfl
          refine hK.out _ _ ?_
          clear hK K
          refine norm_ (a' := ?_) ?_ ?_
          rotate_left
          ·show Act.put _ (some 78) _ = _
           simp only [Act.put, List.setIfInBounds_toArray, List.set_cons_zero, List.set_cons_succ, i64_w, i32_w]
           rfl
          refine last_ (i := 15) (N := some 79) (nb_ 17 65535) rfl rfl (one_of HT_.out (by kernel_rfl)) (by decide) (fun K hK => ?_)
          refine Kd.R_append_step k37 (w0 := w) w.heap.size (by rfl) (.tmp 64) (.tmp 78) 29 37 (.agg #[(.int .i64 0), (.int .i64 0)]) 16 rfl Try.underlying29 info37 rfl (by decide) (by omega) u12 x12_2 (⟨(rd_T37 t600 x13_2).f1, wrap64 ((wrap64 (1 + t599)) - ((rd_T37 t600 x13_2).f0))⟩ : S37) [.int .i64 ((rd_T37 t600 x13_2).f1), .int .i64 (wrap64 ((wrap64 (1 + t599)) - ((rd_T37 t600 x13_2).f0)))] (fun k_ => some k_ ≠ (.slice (some ad613) t600.length co27 : Value).ownBlock) (fun _ => False) rfl rfl ?aP (fun _ hk => hk.elim) ?aF ?aO ?aB ?aS ?aL ?_
          (case aP => exact k37_mkM _ _ _ (⟨(rd_T37 t600 x13_2).f1, wrap64 ((wrap64 (1 + t599)) - ((rd_T37 t600 x13_2).f0))⟩ : S37))
          (case aB => exact (bl1_ HB.out GE598.out))
          (case aF => exact (fun k_ hk => Kd.fresh' (Kd.R_lt (ra_ HO_7.out)) k_ hk))
          (case aO => exact (ra_ HO_12.out))
          (case aS => exact (below_size (bl1_ HB.out GE598.out)))
          (case aL => have := LMc33.out; omega)
          intro v616 w35 ho hb hg hat
          rw [← Ny615.out] at ho
          have n0_ := Aside0.mk (Kd.R_after (ok := (fun _ => True)) (by (with_reducible repeat (first | apply Kd.R_alloc | apply Kd.R_drewN | apply Kd.R_drew)); exact Kd.R_mono HO_7.out (fun _ hk => ⟨trivial, hk⟩)) hg hat)
          have n1_ := Aside0.mk (Kd.R_over' (ra_ HO_10.out) (Kd.R_typed (ra_ HO_12.out)) (by decide) hg)
          have n2_ := Aside0.mk (Kd.R_over' (ra_ HO_599001.out) (Kd.R_typed (ra_ HO_12.out)) (by decide) hg)
          have n3_ := Aside0.mk (blk_grown (g := gb598) (o := .cells #[.int .i64 t594, .slice Ao12 t595.length co12] 26 (0, 0)) (bk_ BK598.out) hg (Kd.R_ne HO_12.out BK598.out (by decide)))
          have n4_ := Aside0.mk (hb)
          have n5_ := Aside0.mk (ho)
          clear HO_7
          clear HO_10
          clear HO_599001
          clear BK598
          clear HB
          clear HO_12
          have HO_7 := n0_
          have HO_10 := n1_
          have HO_599001 := n2_
          have BK598 := n3_
          have HB := n4_
          have HO617 := n5_
          clear n0_ n1_ n2_ n3_ n4_ n5_
          clear ho hb hg hat
          refine hK.out _ _ ?_
          clear hK K
          refine norm_ (a' := ?_) ?_ ?_
          rotate_left
          ·show Act.put _ (some 79) _ = _
           simp only [Act.put, List.setIfInBounds_toArray, List.set_cons_zero, List.set_cons_succ, i64_w, i32_w]
           rfl
          refine puz_ 16 (some 12) (nb_ 17 131071) rfl rfl (any_of HT_.out (by kernel_rfl)) ?_
          refine done_ (done_of HT_.out (by kernel_rfl)) ?_
          try go_wp2
          go_roundg k2
          case measure => have := HJ14.out; have := HK2.out; omega
          case rel => exact ⟨(y615), (wrap64 (x13_2 + 1)), rs_, H', ⟨by have := HJ14.out; have := HK2.out; omega⟩, ⟨by (with_reducible repeat (first | apply Kd.R_alloc | apply Kd.R_drewN | apply Kd.R_drew)); exact Kd.R_mono HO_7.out (fun _ hk => hk.2)⟩, ⟨ra_ HO_10.out⟩, ⟨ra_ HO617.out⟩, ⟨ra_ HO_599001.out⟩, ⟨bk_ BK598.out⟩, ⟨bl1_ HB.out GE598.out⟩⟩
         ·rw [if_neg c31] at H
          have c31b0 := decide_eq_false c31
          clear c31
          replace H := Option.bind_eq_some_iff.mp H
          obtain ⟨⟨t618, t621⟩, A360, H⟩ := H
          replace H : (if t609 = 0 then (if t621 = 0 then (if (t618.length : Int) = (t606.length : Int) then (laws_FnPackings.j2 k2 (wrap64 (1 + t599)) t604 t594 t595) else (some false)) else (some false)) else (some false)) = some r := H
          have A36 := Aside0.mk A360
          clear A360
          by_cases c37 : t609 = 0
          ·rw [if_pos c37] at H
           have c37b0 : (t609 == 0) = true := beq_iff_eq.mpr c37
           have c37b1 : (t609 != 0) = false := bne_eq_false_iff_eq.mpr c37
           clear c37
           by_cases c38 : t621 = 0
           ·rw [if_pos c38] at H
            have c38b0 : (t621 == 0) = true := beq_iff_eq.mpr c38
            have c38b1 : (t621 != 0) = false := bne_eq_false_iff_eq.mpr c38
            clear c38
            by_cases c39 : (t618.length : Int) = (t606.length : Int)
            ·rw [if_pos c39] at H
             have c39b0 : ((t618.length : Int) == (t606.length : Int)) = true := beq_iff_eq.mpr c39
             have c39b1 : ((t618.length : Int) != (t606.length : Int)) = false := bne_eq_false_iff_eq.mpr c39
             have c39b2 : (t618.length == t606.length) = true := by first | simpa using c39 | (simp at c39 ⊢; omega)
             clear c39
             have H' := Aside0.mk H
             clear H
             obtain ⟨hcz40_0, hcz40_1, hfz40_0, hfz40_1⟩ := cz2_ BK598.out
             obtain ⟨Ao41, co41, eo41⟩ := Kd.R_slice HO_12.out
             subst eo41
             go_wp2_with (first | ((with_reducible refine gate_callee (f := 11) rfl ?_); refine goesL_ (some 84) rfl rfl Try.func11 (by kernel_rfl) rfl #[.agg #[.int .i64 t594, .slice Ao12 t595.length co12], .int .i64 (wrap64 (1 + t599)), .slice Ao41 x12_2.length co41] rfl mp_ ?_; (with_reducible refine (impl_ActivePairs.calls k2 t594 _ _ t595 (wrap64 (1 + t599)) _ _ x12_2 t618 t621 _ ?side1 ?side2 ?side3 ?side4 A36.out).mono ?_); (case side1 => exact ca_ (Kd.R_reads' HO_599001.out).2.2); (case side2 => exact (Kd.R_reads' HO_599001.out).2.1); (case side3 => exact ca_ (Kd.R_reads' HO_12.out).2.2); (case side4 => exact (Kd.R_reads' HO_12.out).2.1); rintro e w42 ⟨v619, rfl, ho0, hb⟩; refine ⟨_, rfl, ?_⟩; have n0_ := Aside0.mk (Kd.R_below (ra_ HO_7.out) hb); have n1_ := Aside0.mk (Kd.R_elder' (ra_ HO_10.out) (Kd.R_base ho0) hb); have n2_ := Aside0.mk (Kd.R_below (ra_ HO_12.out) hb); have n3_ := Aside0.mk (Kd.R_below (ra_ HO_599001.out) hb); have n4_ := Aside0.mk (Kd.R_lower (Kd.R_new' ho0 (Kd.R_lt (ra_ HO_10.out))) (below_size (bl1_ HB.out GE598.out))); have n5_ := Aside0.mk (blk_below (g := gb598) (o := .cells #[.int .i64 t594, .slice Ao12 t595.length co12] 26 (0, 0)) (bk_ BK598.out) hb); have n6_ := Aside0.mk (below_step (bl1_ HB.out GE598.out) hb); clear HO_7; clear HO_10; clear HO_12; clear HO_599001; clear BK598; clear HB; have HO_7 := n0_; have HO_10 := n1_; have HO_12 := n2_; have HO_599001 := n3_; have HO620 := n4_; have BK598 := n5_; have HB := n6_; clear n0_ n1_ n2_ n3_ n4_ n5_ n6_; (try clear hb); (try clear hb2); (try clear hk); (try clear hi); (try clear ho0); obtain ⟨Ao43, co43, eo43⟩ := Kd.R_slice HO620.out; subst eo43; obtain ⟨Ao44, co44, eo44⟩ := Kd.R_slice HO_10.out; subst eo44))
             go_meet
             case rel => exact ⟨_, H', ⟨by have := HJ14.out; have := HK2.out; first | omega | exact Nat.le_refl _⟩, ⟨ra_ HO_599001.out⟩, ⟨bk_ BK598.out⟩, ⟨bl1_ HB.out GE598.out⟩⟩
            ·rw [if_neg c39] at H
             have c39b0 : ((t618.length : Int) == (t606.length : Int)) = false := beq_eq_false_iff_ne.mpr c39
             have c39b1 : ((t618.length : Int) != (t606.length : Int)) = true := bne_iff_ne.mpr c39
             have c39b2 : (t618.length == t606.length) = false := by first | simpa using c39 | (simp at c39 ⊢; omega)
             obtain rfl := Option.some.inj H
             obtain ⟨hcz45_0, hcz45_1, hfz45_0, hfz45_1⟩ := cz2_ BK598.out
             obtain ⟨Ao46, co46, eo46⟩ := Kd.R_slice HO_12.out
             subst eo46
             go_wp2_with (first | ((with_reducible refine gate_callee (f := 11) rfl ?_); refine goesL_ (some 84) rfl rfl Try.func11 (by kernel_rfl) rfl #[.agg #[.int .i64 t594, .slice Ao12 t595.length co12], .int .i64 (wrap64 (1 + t599)), .slice Ao46 x12_2.length co46] rfl mp_ ?_; (with_reducible refine (impl_ActivePairs.calls k2 t594 _ _ t595 (wrap64 (1 + t599)) _ _ x12_2 t618 t621 _ ?side1 ?side2 ?side3 ?side4 A36.out).mono ?_); (case side1 => exact ca_ (Kd.R_reads' HO_599001.out).2.2); (case side2 => exact (Kd.R_reads' HO_599001.out).2.1); (case side3 => exact ca_ (Kd.R_reads' HO_12.out).2.2); (case side4 => exact (Kd.R_reads' HO_12.out).2.1); rintro e w47 ⟨v619, rfl, ho0, hb⟩; refine ⟨_, rfl, ?_⟩; have n0_ := Aside0.mk (Kd.R_below (ra_ HO_7.out) hb); have n1_ := Aside0.mk (Kd.R_elder' (ra_ HO_10.out) (Kd.R_base ho0) hb); have n2_ := Aside0.mk (Kd.R_below (ra_ HO_12.out) hb); have n3_ := Aside0.mk (Kd.R_below (ra_ HO_599001.out) hb); have n4_ := Aside0.mk (Kd.R_lower (Kd.R_new' ho0 (Kd.R_lt (ra_ HO_10.out))) (below_size (bl1_ HB.out GE598.out))); have n5_ := Aside0.mk (blk_below (g := gb598) (o := .cells #[.int .i64 t594, .slice Ao12 t595.length co12] 26 (0, 0)) (bk_ BK598.out) hb); have n6_ := Aside0.mk (below_step (bl1_ HB.out GE598.out) hb); clear HO_7; clear HO_10; clear HO_12; clear HO_599001; clear BK598; clear HB; have HO_7 := n0_; have HO_10 := n1_; have HO_12 := n2_; have HO_599001 := n3_; have HO620 := n4_; have BK598 := n5_; have HB := n6_; clear n0_ n1_ n2_ n3_ n4_ n5_ n6_; (try clear hb); (try clear hb2); (try clear hk); (try clear hi); (try clear ho0); obtain ⟨Ao48, co48, eo48⟩ := Kd.R_slice HO620.out; subst eo48; obtain ⟨Ao49, co49, eo49⟩ := Kd.R_slice HO_10.out; subst eo49))
             go_ret
             exact ⟨re_, bl1_ HB.out GE598.out⟩
           ·rw [if_neg c38] at H
            have c38b0 : (t621 == 0) = false := beq_eq_false_iff_ne.mpr c38
            have c38b1 : (t621 != 0) = true := bne_iff_ne.mpr c38
            obtain rfl := Option.some.inj H
            obtain ⟨hcz50_0, hcz50_1, hfz50_0, hfz50_1⟩ := cz2_ BK598.out
            obtain ⟨Ao51, co51, eo51⟩ := Kd.R_slice HO_12.out
            subst eo51
            go_wp2_with (first | ((with_reducible refine gate_callee (f := 11) rfl ?_); refine goesL_ (some 84) rfl rfl Try.func11 (by kernel_rfl) rfl #[.agg #[.int .i64 t594, .slice Ao12 t595.length co12], .int .i64 (wrap64 (1 + t599)), .slice Ao51 x12_2.length co51] rfl mp_ ?_; (with_reducible refine (impl_ActivePairs.calls k2 t594 _ _ t595 (wrap64 (1 + t599)) _ _ x12_2 t618 t621 _ ?side1 ?side2 ?side3 ?side4 A36.out).mono ?_); (case side1 => exact ca_ (Kd.R_reads' HO_599001.out).2.2); (case side2 => exact (Kd.R_reads' HO_599001.out).2.1); (case side3 => exact ca_ (Kd.R_reads' HO_12.out).2.2); (case side4 => exact (Kd.R_reads' HO_12.out).2.1); rintro e w52 ⟨v619, rfl, ho0, hb⟩; refine ⟨_, rfl, ?_⟩; have n0_ := Aside0.mk (Kd.R_below (ra_ HO_7.out) hb); have n1_ := Aside0.mk (Kd.R_elder' (ra_ HO_10.out) (Kd.R_base ho0) hb); have n2_ := Aside0.mk (Kd.R_below (ra_ HO_12.out) hb); have n3_ := Aside0.mk (Kd.R_below (ra_ HO_599001.out) hb); have n4_ := Aside0.mk (Kd.R_lower (Kd.R_new' ho0 (Kd.R_lt (ra_ HO_10.out))) (below_size (bl1_ HB.out GE598.out))); have n5_ := Aside0.mk (blk_below (g := gb598) (o := .cells #[.int .i64 t594, .slice Ao12 t595.length co12] 26 (0, 0)) (bk_ BK598.out) hb); have n6_ := Aside0.mk (below_step (bl1_ HB.out GE598.out) hb); clear HO_7; clear HO_10; clear HO_12; clear HO_599001; clear BK598; clear HB; have HO_7 := n0_; have HO_10 := n1_; have HO_12 := n2_; have HO_599001 := n3_; have HO620 := n4_; have BK598 := n5_; have HB := n6_; clear n0_ n1_ n2_ n3_ n4_ n5_ n6_; (try clear hb); (try clear hb2); (try clear hk); (try clear hi); (try clear ho0)))
            go_ret
            exact ⟨re_, bl1_ HB.out GE598.out⟩
          ·rw [if_neg c37] at H
           have c37b0 : (t609 == 0) = false := beq_eq_false_iff_ne.mpr c37
           have c37b1 : (t609 != 0) = true := bne_iff_ne.mpr c37
           obtain rfl := Option.some.inj H
           obtain ⟨hcz53_0, hcz53_1, hfz53_0, hfz53_1⟩ := cz2_ BK598.out
           obtain ⟨Ao54, co54, eo54⟩ := Kd.R_slice HO_12.out
           subst eo54
           go_wp2_with (first | ((with_reducible refine gate_callee (f := 11) rfl ?_); refine goesL_ (some 84) rfl rfl Try.func11 (by kernel_rfl) rfl #[.agg #[.int .i64 t594, .slice Ao12 t595.length co12], .int .i64 (wrap64 (1 + t599)), .slice Ao54 x12_2.length co54] rfl mp_ ?_; (with_reducible refine (impl_ActivePairs.calls k2 t594 _ _ t595 (wrap64 (1 + t599)) _ _ x12_2 t618 t621 _ ?side1 ?side2 ?side3 ?side4 A36.out).mono ?_); (case side1 => exact ca_ (Kd.R_reads' HO_599001.out).2.2); (case side2 => exact (Kd.R_reads' HO_599001.out).2.1); (case side3 => exact ca_ (Kd.R_reads' HO_12.out).2.2); (case side4 => exact (Kd.R_reads' HO_12.out).2.1); rintro e w55 ⟨v619, rfl, ho0, hb⟩; refine ⟨_, rfl, ?_⟩; have n0_ := Aside0.mk (Kd.R_below (ra_ HO_7.out) hb); have n1_ := Aside0.mk (Kd.R_elder' (ra_ HO_10.out) (Kd.R_base ho0) hb); have n2_ := Aside0.mk (Kd.R_below (ra_ HO_12.out) hb); have n3_ := Aside0.mk (Kd.R_below (ra_ HO_599001.out) hb); have n4_ := Aside0.mk (Kd.R_lower (Kd.R_new' ho0 (Kd.R_lt (ra_ HO_10.out))) (below_size (bl1_ HB.out GE598.out))); have n5_ := Aside0.mk (blk_below (g := gb598) (o := .cells #[.int .i64 t594, .slice Ao12 t595.length co12] 26 (0, 0)) (bk_ BK598.out) hb); have n6_ := Aside0.mk (below_step (bl1_ HB.out GE598.out) hb); clear HO_7; clear HO_10; clear HO_12; clear HO_599001; clear BK598; clear HB; have HO_7 := n0_; have HO_10 := n1_; have HO_12 := n2_; have HO_599001 := n3_; have HO620 := n4_; have BK598 := n5_; have HB := n6_; clear n0_ n1_ n2_ n3_ n4_ n5_ n6_; (try clear hb); (try clear hb2); (try clear hk); (try clear hi); (try clear ho0)))
           go_ret
           exact ⟨re_, bl1_ HB.out GE598.out⟩
   ·rw [if_neg c14] at H
    have c14b0 : (t604 == 0) = false := beq_eq_false_iff_ne.mpr c14
    have c14b1 : (t604 != 0) = true := bne_iff_ne.mpr c14
    (first | rw [c14b0] | (simp only [i64_w, i32_w]; rw [c14b0]) | skip)
    have H' := Aside0.mk H
    clear H
    go_wp2
    go_meet
    case rel => exact ⟨_, H', ⟨by first | omega | exact Nat.le_refl _⟩, ⟨ra_ HO597.out⟩, ⟨bk_ BK598.out⟩, ⟨bl1_ HB.out GE598.out⟩⟩
  case rest =>
   clear HC8
   try clear c1
   try clear c2
   try clear p2
   try clear c3
   try clear c4
   try clear c6
   try clear p6
   try clear q6
   try clear hx6
   try clear c7
   try clear c8
   try clear c9
   try clear c11
   try clear c14
   try clear c14b0
   try clear c14b1
   try clear c16
   try clear c16b0
   try clear c18
   try clear c18b0
   try clear c24
   try clear c31
   try clear c31b0
   try clear c32
   try clear c32b0
   try clear c33
   try clear c37
   try clear c37b0
   try clear c37b1
   try clear c38
   try clear c38b0
   try clear c38b1
   try clear c39
   try clear c39b0
   try clear c39b1
   try clear c39b2
   try clear hcz11_0
   try clear hcz11_1
   try clear hcz22_0
   try clear hcz22_1
   try clear hcz26_0
   try clear hcz26_1
   try clear hcz40_0
   try clear hcz40_1
   try clear hcz45_0
   try clear hcz45_1
   try clear hcz50_0
   try clear hcz50_1
   try clear hcz53_0
   try clear hcz53_1
   try clear hfz11_0
   try clear hfz11_1
   try clear hfz22_0
   try clear hfz22_1
   try clear hfz26_0
   try clear hfz26_1
   try clear hfz40_0
   try clear hfz40_1
   try clear hfz45_0
   try clear hfz45_1
   try clear hfz50_0
   try clear hfz50_1
   try clear hfz53_0
   try clear hfz53_1
   try clear hx613_0
   try clear hx613_1
   try clear hx614_0
   try clear hx614_1
   try clear p2
   try clear p6
   try clear p613
   try clear p614
   try clear q613
   try clear q614
   obtain ⟨kq, HA, HJ7, HO_599001, BK598, HB⟩ := hcut
   cases kq with
   | zero => exact absurd HA.out (by simp [laws_FnPackings.j2])
   | succ kj7 =>
    have H := HA.out
    clear HA
    simp only [laws_FnPackings.j2] at H
    replace H := Option.bind_eq_some_iff.mp H
    obtain ⟨⟨t622, t623⟩, A560, H⟩ := H
    replace H : (if t623 = 0 then (if t604 = 0 then (if t622 > (wrap64 (1 + t599)) then (laws_FnPackings.j3 kj7 t622 true t594 t595) else (if t604 = 3 then (laws_FnPackings.j3 kj7 t622 (t622 == (wrap64 (1 + t599))) t594 t595) else (laws_FnPackings.j3 kj7 t622 false t594 t595))) else (if t604 = 3 then (laws_FnPackings.j3 kj7 t622 (t622 == (wrap64 (1 + t599))) t594 t595) else (laws_FnPackings.j3 kj7 t622 false t594 t595))) else (if t623 = 10 then (some true) else (if t623 = 3 then (some (t604 != 0)) else (some false)))) = some r := H
    have A56 := Aside0.mk A560
    clear A560
    by_cases c57 : t623 = 0
    ·rw [if_pos c57] at H
     have c57b0 : (t623 == 0) = true := beq_iff_eq.mpr c57
     have c57b1 : (t623 != 0) = false := bne_eq_false_iff_eq.mpr c57
     clear c57
     have HC58 := Aside0.mk H
     clear H
     obtain ⟨hcz59_0, hcz59_1, hfz59_0, hfz59_1⟩ := cz2_ BK598.out
     go_upto_region 21 with (first | ((with_reducible refine gate_callee (f := 12) rfl ?_); refine goesL_ (some 102) rfl rfl Try.func12 (by kernel_rfl) rfl #[.agg #[.int .i64 t594, .slice Ao12 t595.length co12], .int .i64 9, .int .i64 3000] rfl mp_ ?_; (with_reducible refine (impl_SmallestSide.calls kj7 t594 _ _ t595 9 3000 t622 t623 _ ?side1 ?side2 A56.out).mono ?_); (case side1 => exact ca_ (Kd.R_reads' HO_599001.out).2.2); (case side2 => exact (Kd.R_reads' HO_599001.out).2.1); rintro e w60 ⟨rfl, hb⟩; refine ⟨_, rfl, ?_⟩; have n0_ := Aside0.mk (Kd.R_below (ra_ HO_599001.out) hb); have n1_ := Aside0.mk (blk_below (g := gb598) (o := .cells #[.int .i64 t594, .slice Ao12 t595.length co12] 26 (0, 0)) (bk_ BK598.out) hb); have n2_ := Aside0.mk (below_step (bl1_ HB.out GE598.out) hb); clear HO_599001; clear BK598; clear HB; have HO_599001 := n0_; have BK598 := n1_; have HB := n2_; clear n0_ n1_ n2_; (try clear hb); (try clear hb2); (try clear hk); (try clear hi)))
     (try simp only [Act.put, List.setIfInBounds_toArray, List.set_cons_zero, List.set_cons_succ])
     go_cut [132] (fun v132 wc => ∃ (kq : Nat) (x132_57 : Bool), v132 = .bool x132_57 ∧ Aside0 (laws_FnPackings.j3 kq t622 x132_57 t594 t595 = some r) ∧ Aside0 (kq ≤ kj7) ∧ Aside0 (Kd.R k75 75 wc w.heap.size (fun _ => True) (.slice Ao12 t595.length co12) t595) ∧ Aside0 (wc.heap[gb598]? = some (.cells #[.int .i64 t594, (.slice Ao12 t595.length co12)] 26 (0, 0))) ∧ Aside0 (Below w.heap.size w wc))
     case first =>
      have H := HC58.out
      clear HC58
      by_cases c61 : t604 = 0
      ·rw [if_pos c61] at H
       have c61b0 : (t604 == 0) = true := beq_iff_eq.mpr c61
       have c61b1 : (t604 != 0) = false := bne_eq_false_iff_eq.mpr c61
       clear c61
       (first | rw [c61b0] | (simp only [i64_w, i32_w]; rw [c61b0]) | skip)
       by_cases c62 : t622 > (wrap64 (1 + t599))
       ·rw [if_pos c62] at H
        have c62b0 : decide ((wrap64 (1 + t599)) < t622) = true := decide_eq_true c62
        clear c62
        have H' := Aside0.mk H
        clear H
        go_wp2
        go_meet
        case rel => exact ⟨_, (true), rs_, H', ⟨by have := HJ7.out; first | omega | exact Nat.le_refl _⟩, ⟨ra_ HO_599001.out⟩, ⟨bk_ BK598.out⟩, ⟨bl1_ HB.out GE598.out⟩⟩
       ·rw [if_neg c62] at H
        have c62b0 : decide ((wrap64 (1 + t599)) < t622) = false := decide_eq_false c62
        clear c62
        by_cases c63 : t604 = 3
        ·rw [if_pos c63] at H
         have c63b0 : (t604 == 3) = true := beq_iff_eq.mpr c63
         have c63b1 : (t604 != 3) = false := bne_eq_false_iff_eq.mpr c63
         clear c63
         have H' := Aside0.mk H
         clear H
         go_wp2
         go_meet
         case rel => exact ⟨_, ((t622 == (wrap64 (1 + t599)))), rs_, H', ⟨by have := HJ7.out; first | omega | exact Nat.le_refl _⟩, ⟨ra_ HO_599001.out⟩, ⟨bk_ BK598.out⟩, ⟨bl1_ HB.out GE598.out⟩⟩
        ·rw [if_neg c63] at H
         have c63b0 : (t604 == 3) = false := beq_eq_false_iff_ne.mpr c63
         have c63b1 : (t604 != 3) = true := bne_iff_ne.mpr c63
         have H' := Aside0.mk H
         clear H
         go_wp2
         go_meet
         case rel => exact ⟨_, (false), rs_, H', ⟨by have := HJ7.out; first | omega | exact Nat.le_refl _⟩, ⟨ra_ HO_599001.out⟩, ⟨bk_ BK598.out⟩, ⟨bl1_ HB.out GE598.out⟩⟩
      ·rw [if_neg c61] at H
       have c61b0 : (t604 == 0) = false := beq_eq_false_iff_ne.mpr c61
       have c61b1 : (t604 != 0) = true := bne_iff_ne.mpr c61
       (first | rw [c61b0] | (simp only [i64_w, i32_w]; rw [c61b0]) | skip)
       by_cases c64 : t604 = 3
       ·rw [if_pos c64] at H
        have c64b0 : (t604 == 3) = true := beq_iff_eq.mpr c64
        have c64b1 : (t604 != 3) = false := bne_eq_false_iff_eq.mpr c64
        clear c64
        have H' := Aside0.mk H
        clear H
        go_wp2
        go_meet
        case rel => exact ⟨_, ((t622 == (wrap64 (1 + t599)))), rs_, H', ⟨by have := HJ7.out; first | omega | exact Nat.le_refl _⟩, ⟨ra_ HO_599001.out⟩, ⟨bk_ BK598.out⟩, ⟨bl1_ HB.out GE598.out⟩⟩
       ·rw [if_neg c64] at H
        have c64b0 : (t604 == 3) = false := beq_eq_false_iff_ne.mpr c64
        have c64b1 : (t604 != 3) = true := bne_iff_ne.mpr c64
        have H' := Aside0.mk H
        clear H
        go_wp2
        go_meet
        case rel => exact ⟨_, (false), rs_, H', ⟨by have := HJ7.out; first | omega | exact Nat.le_refl _⟩, ⟨ra_ HO_599001.out⟩, ⟨bk_ BK598.out⟩, ⟨bl1_ HB.out GE598.out⟩⟩
     case rest =>
      clear HC58
      try clear c1
      try clear c2
      try clear p2
      try clear c3
      try clear c4
      try clear c5
      try clear c6
      try clear p6
      try clear q6
      try clear hx6
      try clear c7
      try clear c8
      try clear c9
      try clear c11
      try clear c12
      try clear c14
      try clear c14b0
      try clear c14b1
      try clear c16
      try clear c16b0
      try clear c18
      try clear c18b0
      try clear c24
      try clear c31
      try clear c31b0
      try clear c32
      try clear c32b0
      try clear c33
      try clear c37
      try clear c37b0
      try clear c37b1
      try clear c38
      try clear c38b0
      try clear c38b1
      try clear c39
      try clear c39b0
      try clear c39b1
      try clear c39b2
      try clear c57
      try clear c57b0
      try clear c57b1
      try clear c61
      try clear c61b0
      try clear c61b1
      try clear p61
      try clear q61
      try clear hx61
      try clear c62
      try clear c62b0
      try clear c63
      try clear c63b0
      try clear c63b1
      try clear c64
      try clear c64b0
      try clear c64b1
      try clear p64
      try clear hcz11_0
      try clear hcz11_1
      try clear hcz22_0
      try clear hcz22_1
      try clear hcz26_0
      try clear hcz26_1
      try clear hcz40_0
      try clear hcz40_1
      try clear hcz45_0
      try clear hcz45_1
      try clear hcz50_0
      try clear hcz50_1
      try clear hcz53_0
      try clear hcz53_1
      try clear hcz59_0
      try clear hcz59_1
      try clear hfz11_0
      try clear hfz11_1
      try clear hfz22_0
      try clear hfz22_1
      try clear hfz26_0
      try clear hfz26_1
      try clear hfz40_0
      try clear hfz40_1
      try clear hfz45_0
      try clear hfz45_1
      try clear hfz50_0
      try clear hfz50_1
      try clear hfz53_0
      try clear hfz53_1
      try clear hfz59_0
      try clear hfz59_1
      try clear hx613_0
      try clear hx613_1
      try clear hx614_0
      try clear hx614_1
      try clear p2
      try clear p6
      try clear p613
      try clear p614
      try clear q6
      try clear q613
      try clear q614
      obtain ⟨kq, x132_57, rfl, HA, HJ57, HO_599001, BK598, HB⟩ := hcut
      cases kq with
      | zero => exact absurd HA.out (by simp [laws_FnPackings.j3])
      | succ kj57 =>
       have H := HA.out
       clear HA
       simp only [laws_FnPackings.j3] at H
       by_cases c65 : x132_57 = true
       ·subst c65
        have H1 : (some false) = some r := by rw [if_pos rfl] at H; exact H
        clear H
        have H := H1
        clear H1
        obtain rfl := Option.some.inj H
        go_wp2
        go_ret
        exact ⟨re_, bl1_ HB.out GE598.out⟩
       ·replace c65 := Bool.eq_false_iff.mpr c65
        subst c65
        have H1 : ((impl_FirstPacking.f kj57 t594 t595 t622 3000).bind fun bt624 => (if bt624.2.2 = 0 then (if t622 = 1 then (some (bt624.2.2 == 0)) else ((impl_FirstPacking.f kj57 t594 t595 (wrap64 (t622 - 1)) 3000).bind fun bt629 => (some (bt629.2.2 == 3)))) else (some (bt624.2.2 == 0)))) = some r := by rw [if_neg (show ¬ (false = true) by decide)] at H; exact H
        clear H
        have H := H1
        clear H1
        replace H := Option.bind_eq_some_iff.mp H
        obtain ⟨⟨t624, t627, t628⟩, A660, H⟩ := H
        replace H : (if t628 = 0 then (if t622 = 1 then (some (t628 == 0)) else ((impl_FirstPacking.f kj57 t594 t595 (wrap64 (t622 - 1)) 3000).bind fun bt629 => (some (bt629.2.2 == 3)))) else (some (t628 == 0))) = some r := H
        have A66 := Aside0.mk A660
        clear A660
        by_cases c67 : t628 = 0
        ·rw [if_pos c67] at H
         have c67b0 : (t628 == 0) = true := beq_iff_eq.mpr c67
         have c67b1 : (t628 != 0) = false := bne_eq_false_iff_eq.mpr c67
         clear c67
         by_cases c68 : t622 = 1
         ·rw [if_pos c68] at H
          have c68b0 : (t622 == 1) = true := beq_iff_eq.mpr c68
          have c68b1 : (t622 != 1) = false := bne_eq_false_iff_eq.mpr c68
          clear c68
          obtain rfl := Option.some.inj H
          obtain ⟨hcz69_0, hcz69_1, hfz69_0, hfz69_1⟩ := cz2_ BK598.out
          go_wp2_with (first | ((with_reducible refine gate_callee (f := 9) rfl ?_); refine goesL_ (some 136) rfl rfl Try.func9 (by kernel_rfl) rfl #[.agg #[.int .i64 t594, .slice Ao12 t595.length co12], .int .i64 t622, .int .i64 3000] rfl mp_ ?_; (with_reducible refine (impl_FirstPacking.calls kj57 t594 _ _ t595 t622 3000 t624 t627 t628 _ ?side1 ?side2 A66.out).mono ?_); (case side1 => exact ca_ (Kd.R_reads' HO_599001.out).2.2); (case side2 => exact (Kd.R_reads' HO_599001.out).2.1); rintro e w70 ⟨v625, rfl, ho0, hb⟩; refine ⟨_, rfl, ?_⟩; have n0_ := Aside0.mk (Kd.R_below (ra_ HO_599001.out) hb); have n1_ := Aside0.mk (Kd.R_lower ho0 (below_size (bl1_ HB.out GE598.out))); have n2_ := Aside0.mk (blk_below (g := gb598) (o := .cells #[.int .i64 t594, .slice Ao12 t595.length co12] 26 (0, 0)) (bk_ BK598.out) hb); have n3_ := Aside0.mk (below_step (bl1_ HB.out GE598.out) hb); clear HO_599001; clear BK598; clear HB; have HO_599001 := n0_; have HO626 := n1_; have BK598 := n2_; have HB := n3_; clear n0_ n1_ n2_ n3_; (try clear hb); (try clear hb2); (try clear hk); (try clear hi); (try clear ho0)))
          go_ret
          exact ⟨re_, bl1_ HB.out GE598.out⟩
         ·rw [if_neg c68] at H
          have c68b0 : (t622 == 1) = false := beq_eq_false_iff_ne.mpr c68
          have c68b1 : (t622 != 1) = true := bne_iff_ne.mpr c68
          replace H := Option.bind_eq_some_iff.mp H
          obtain ⟨⟨t629, t632, t633⟩, A710, H⟩ := H
          replace H : (some (t633 == 3)) = some r := H
          have A71 := Aside0.mk A710
          clear A710
          obtain rfl := Option.some.inj H
          obtain ⟨hcz72_0, hcz72_1, hfz72_0, hfz72_1⟩ := cz2_ BK598.out
          go_wp2_with (first | ((with_reducible refine gate_callee (f := 9) rfl ?_); refine goesL_ (some 136) rfl rfl Try.func9 (by kernel_rfl) rfl #[.agg #[.int .i64 t594, .slice Ao12 t595.length co12], .int .i64 t622, .int .i64 3000] rfl mp_ ?_; (with_reducible refine (impl_FirstPacking.calls kj57 t594 _ _ t595 t622 3000 t624 t627 t628 _ ?side1 ?side2 A66.out).mono ?_); (case side1 => exact ca_ (Kd.R_reads' HO_599001.out).2.2); (case side2 => exact (Kd.R_reads' HO_599001.out).2.1); rintro e w73 ⟨v625, rfl, ho0, hb⟩; refine ⟨_, rfl, ?_⟩; have n0_ := Aside0.mk (Kd.R_below (ra_ HO_599001.out) hb); have n1_ := Aside0.mk (Kd.R_lower ho0 (below_size (bl1_ HB.out GE598.out))); have n2_ := Aside0.mk (blk_below (g := gb598) (o := .cells #[.int .i64 t594, .slice Ao12 t595.length co12] 26 (0, 0)) (bk_ BK598.out) hb); have n3_ := Aside0.mk (below_step (bl1_ HB.out GE598.out) hb); clear HO_599001; clear BK598; clear HB; have HO_599001 := n0_; have HO626 := n1_; have BK598 := n2_; have HB := n3_; clear n0_ n1_ n2_ n3_; (try clear hb); (try clear hb2); (try clear hk); (try clear hi); (try clear ho0); obtain ⟨hcz74_0, hcz74_1, hfz74_0, hfz74_1⟩ := cz2_ BK598.out) | ((with_reducible refine gate_callee (f := 9) rfl ?_); refine goesL_ (some 152) rfl rfl Try.func9 (by kernel_rfl) rfl #[.agg #[.int .i64 t594, .slice Ao12 t595.length co12], .int .i64 (wrap64 (t622 - 1)), .int .i64 3000] rfl mp_ ?_; (with_reducible refine (impl_FirstPacking.calls kj57 t594 _ _ t595 (wrap64 (t622 - 1)) 3000 t629 t632 t633 _ ?side1 ?side2 A71.out).mono ?_); (case side1 => exact ca_ (Kd.R_reads' HO_599001.out).2.2); (case side2 => exact (Kd.R_reads' HO_599001.out).2.1); rintro e w75 ⟨v630, rfl, ho0, hb⟩; refine ⟨_, rfl, ?_⟩; have n0_ := Aside0.mk (Kd.R_below (ra_ HO_599001.out) hb); have n1_ := Aside0.mk (Kd.R_elder' (ra_ HO626.out) (Kd.R_base ho0) hb); have n2_ := Aside0.mk (Kd.R_lower (Kd.R_new' ho0 (Kd.R_lt (ra_ HO626.out))) (below_size (bl1_ HB.out GE598.out))); have n3_ := Aside0.mk (blk_below (g := gb598) (o := .cells #[.int .i64 t594, .slice Ao12 t595.length co12] 26 (0, 0)) (bk_ BK598.out) hb); have n4_ := Aside0.mk (below_step (bl1_ HB.out GE598.out) hb); clear HO_599001; clear HO626; clear BK598; clear HB; have HO_599001 := n0_; have HO626 := n1_; have HO631 := n2_; have BK598 := n3_; have HB := n4_; clear n0_ n1_ n2_ n3_ n4_; (try clear hb); (try clear hb2); (try clear hk); (try clear hi); (try clear ho0)))
          go_ret
          exact ⟨re_, bl1_ HB.out GE598.out⟩
        ·rw [if_neg c67] at H
         have c67b0 : (t628 == 0) = false := beq_eq_false_iff_ne.mpr c67
         have c67b1 : (t628 != 0) = true := bne_iff_ne.mpr c67
         obtain rfl := Option.some.inj H
         obtain ⟨hcz76_0, hcz76_1, hfz76_0, hfz76_1⟩ := cz2_ BK598.out
         go_wp2_with (first | ((with_reducible refine gate_callee (f := 9) rfl ?_); refine goesL_ (some 136) rfl rfl Try.func9 (by kernel_rfl) rfl #[.agg #[.int .i64 t594, .slice Ao12 t595.length co12], .int .i64 t622, .int .i64 3000] rfl mp_ ?_; (with_reducible refine (impl_FirstPacking.calls kj57 t594 _ _ t595 t622 3000 t624 t627 t628 _ ?side1 ?side2 A66.out).mono ?_); (case side1 => exact ca_ (Kd.R_reads' HO_599001.out).2.2); (case side2 => exact (Kd.R_reads' HO_599001.out).2.1); rintro e w77 ⟨v625, rfl, ho0, hb⟩; refine ⟨_, rfl, ?_⟩; have n0_ := Aside0.mk (Kd.R_below (ra_ HO_599001.out) hb); have n1_ := Aside0.mk (Kd.R_lower ho0 (below_size (bl1_ HB.out GE598.out))); have n2_ := Aside0.mk (blk_below (g := gb598) (o := .cells #[.int .i64 t594, .slice Ao12 t595.length co12] 26 (0, 0)) (bk_ BK598.out) hb); have n3_ := Aside0.mk (below_step (bl1_ HB.out GE598.out) hb); clear HO_599001; clear BK598; clear HB; have HO_599001 := n0_; have HO626 := n1_; have BK598 := n2_; have HB := n3_; clear n0_ n1_ n2_ n3_; (try clear hb); (try clear hb2); (try clear hk); (try clear hi); (try clear ho0)))
         go_ret
         exact ⟨re_, bl1_ HB.out GE598.out⟩
    ·rw [if_neg c57] at H
     have c57b0 : (t623 == 0) = false := beq_eq_false_iff_ne.mpr c57
     have c57b1 : (t623 != 0) = true := bne_iff_ne.mpr c57
     by_cases c78 : t623 = 10
     ·rw [if_pos c78] at H
      have c78b0 : (t623 == 10) = true := beq_iff_eq.mpr c78
      have c78b1 : (t623 != 10) = false := bne_eq_false_iff_eq.mpr c78
      clear c78
      obtain rfl := Option.some.inj H
      obtain ⟨hcz79_0, hcz79_1, hfz79_0, hfz79_1⟩ := cz2_ BK598.out
      go_wp2_with (first | ((with_reducible refine gate_callee (f := 12) rfl ?_); refine goesL_ (some 102) rfl rfl Try.func12 (by kernel_rfl) rfl #[.agg #[.int .i64 t594, .slice Ao12 t595.length co12], .int .i64 9, .int .i64 3000] rfl mp_ ?_; (with_reducible refine (impl_SmallestSide.calls kj7 t594 _ _ t595 9 3000 t622 t623 _ ?side1 ?side2 A56.out).mono ?_); (case side1 => exact ca_ (Kd.R_reads' HO_599001.out).2.2); (case side2 => exact (Kd.R_reads' HO_599001.out).2.1); rintro e w80 ⟨rfl, hb⟩; refine ⟨_, rfl, ?_⟩; have n0_ := Aside0.mk (Kd.R_below (ra_ HO_599001.out) hb); have n1_ := Aside0.mk (blk_below (g := gb598) (o := .cells #[.int .i64 t594, .slice Ao12 t595.length co12] 26 (0, 0)) (bk_ BK598.out) hb); have n2_ := Aside0.mk (below_step (bl1_ HB.out GE598.out) hb); clear HO_599001; clear BK598; clear HB; have HO_599001 := n0_; have BK598 := n1_; have HB := n2_; clear n0_ n1_ n2_; (try clear hb); (try clear hb2); (try clear hk); (try clear hi)))
      go_ret
      exact ⟨re_, bl1_ HB.out GE598.out⟩
     ·rw [if_neg c78] at H
      have c78b0 : (t623 == 10) = false := beq_eq_false_iff_ne.mpr c78
      have c78b1 : (t623 != 10) = true := bne_iff_ne.mpr c78
      by_cases c81 : t623 = 3
      ·rw [if_pos c81] at H
       have c81b0 : (t623 == 3) = true := beq_iff_eq.mpr c81
       have c81b1 : (t623 != 3) = false := bne_eq_false_iff_eq.mpr c81
       clear c81
       obtain rfl := Option.some.inj H
       obtain ⟨hcz82_0, hcz82_1, hfz82_0, hfz82_1⟩ := cz2_ BK598.out
       go_wp2_with (first | ((with_reducible refine gate_callee (f := 12) rfl ?_); refine goesL_ (some 102) rfl rfl Try.func12 (by kernel_rfl) rfl #[.agg #[.int .i64 t594, .slice Ao12 t595.length co12], .int .i64 9, .int .i64 3000] rfl mp_ ?_; (with_reducible refine (impl_SmallestSide.calls kj7 t594 _ _ t595 9 3000 t622 t623 _ ?side1 ?side2 A56.out).mono ?_); (case side1 => exact ca_ (Kd.R_reads' HO_599001.out).2.2); (case side2 => exact (Kd.R_reads' HO_599001.out).2.1); rintro e w83 ⟨rfl, hb⟩; refine ⟨_, rfl, ?_⟩; have n0_ := Aside0.mk (Kd.R_below (ra_ HO_599001.out) hb); have n1_ := Aside0.mk (blk_below (g := gb598) (o := .cells #[.int .i64 t594, .slice Ao12 t595.length co12] 26 (0, 0)) (bk_ BK598.out) hb); have n2_ := Aside0.mk (below_step (bl1_ HB.out GE598.out) hb); clear HO_599001; clear BK598; clear HB; have HO_599001 := n0_; have BK598 := n1_; have HB := n2_; clear n0_ n1_ n2_; (try clear hb); (try clear hb2); (try clear hk); (try clear hi)))
       go_ret
       exact ⟨re_, bl1_ HB.out GE598.out⟩
      ·rw [if_neg c81] at H
       have c81b0 : (t623 == 3) = false := beq_eq_false_iff_ne.mpr c81
       have c81b1 : (t623 != 3) = true := bne_iff_ne.mpr c81
       obtain rfl := Option.some.inj H
       obtain ⟨hcz84_0, hcz84_1, hfz84_0, hfz84_1⟩ := cz2_ BK598.out
       go_wp2_with (first | ((with_reducible refine gate_callee (f := 12) rfl ?_); refine goesL_ (some 102) rfl rfl Try.func12 (by kernel_rfl) rfl #[.agg #[.int .i64 t594, .slice Ao12 t595.length co12], .int .i64 9, .int .i64 3000] rfl mp_ ?_; (with_reducible refine (impl_SmallestSide.calls kj7 t594 _ _ t595 9 3000 t622 t623 _ ?side1 ?side2 A56.out).mono ?_); (case side1 => exact ca_ (Kd.R_reads' HO_599001.out).2.2); (case side2 => exact (Kd.R_reads' HO_599001.out).2.1); rintro e w85 ⟨rfl, hb⟩; refine ⟨_, rfl, ?_⟩; have n0_ := Aside0.mk (Kd.R_below (ra_ HO_599001.out) hb); have n1_ := Aside0.mk (blk_below (g := gb598) (o := .cells #[.int .i64 t594, .slice Ao12 t595.length co12] 26 (0, 0)) (bk_ BK598.out) hb); have n2_ := Aside0.mk (below_step (bl1_ HB.out GE598.out) hb); clear HO_599001; clear BK598; clear HB; have HO_599001 := n0_; have BK598 := n1_; have HB := n2_; clear n0_ n1_ n2_; (try clear hb); (try clear hb2); (try clear hk); (try clear hi)))
       go_ret
       exact ⟨re_, bl1_ HB.out GE598.out⟩

end Go.Proofs.Ytmckbecegiegaaa.A
