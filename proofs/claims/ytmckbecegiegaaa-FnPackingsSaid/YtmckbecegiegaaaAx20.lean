/- For functions of the translation: a Lean function each, and that the call of the Go function comes to its answer. Written by this session's own program (myprint.py, over the kit's printer). -/
import Derived.Test.YtmckbecegiegaaaAx0
import Derived.Test.YtmckbecegiegaaaAx7
import Derived.Test.YtmckbecegiegaaaAx24
--compacted
namespace Go.Proofs.Ytmckbecegiegaaa.A
open Go.RowKit Go.Proofs.YtmckbecegiegaaaW.PrintWords Go.Proofs.YtmckbecegiegaaaW.PrintLast Go.Proofs.YtmckbecegiegaaaW.PrintMore
attribute [local go_sem] max2_int min2_int max_two min_two max_three min_three max_four min_four   -- for this text's walks alone
set_option linter.unusedVariables false
set_option linter.unusedSimpArgs false

/-! ### laws_a2Long: function 6 -/
def laws_a2Long.f (l0 : List Int) (l1 : List Int) : Option (Bool) := if (l0.length : Int) > 3000 then (some true) else (some (decide ((l1.length : Int) > 3000)))
set_option maxHeartbeats 8000000 in
set_option maxRecDepth 100000 in
theorem laws_a2Long.calls (A0 : Option Addr) (c0 : Nat) (l0 : List Int) (A1 : Option Addr) (c1 : Nat) (l1 : List Int) (r : Bool) (w : World) (hr0 : Kd.C (Kd.int .u8) w A0 l0.length l0) (hc0 : l0.length ≤ c0) (hr1 : Kd.C (Kd.int .u8) w A1 l1.length l1) (hc1 : l1.length ≤ c1) (h : laws_a2Long.f l0 l1 = some r) :
  Calls Try.prog 6 #[.slice A0 l0.length c0, .slice A1 l1.length c1] w fun e w' => e = .returned (.bool r) ∧ Drawn0 w w' := by
 have HR0 := Aside0.mk hr0
 have HC0 := Aside0.mk hc0
 clear hr0 hc0
 have HR1 := Aside0.mk hr1
 have HC1 := Aside0.mk hc1
 clear hr1 hc1
 have H : (if (l0.length : Int) > 3000 then (some true) else (some (decide ((l1.length : Int) > 3000)))) = some r := h
 clear h
 by_cases c3 : (l0.length : Int) > 3000
 ·rw [if_pos c3] at H
  have c3b0 : decide (3000 < (l0.length : Int)) = true := decide_eq_true c3
  have c3b1 : decide (3000 < l0.length) = true := decide_eq_true (by omega)
  clear c3
  obtain rfl := Option.some.inj H
  go_enter Try.func6, Try.ntmps6
  go_wp2
  go_ret
  exact ⟨by first | rfl | (simp; done) | (simp [*]; done), by repeat (first | exact Drawn0.refl _ | apply Drawn0.step)⟩
 ·rw [if_neg c3] at H
  have c3b0 : decide (3000 < (l0.length : Int)) = false := decide_eq_false c3
  have c3b1 : decide (3000 < l0.length) = false := decide_eq_false (by omega)
  clear c3
  obtain rfl := Option.some.inj H
  go_enter Try.func6, Try.ntmps6
  go_wp2
  go_ret
  exact ⟨by first | rfl | (simp; done) | (simp [*]; done), by repeat (first | exact Drawn0.refl _ | apply Drawn0.step)⟩

/-! ### spec_l00Src_next: function 56 -/
def spec_l00Src_next.f (s0_0 : List Int) (s0_1 : Int) (s0_2 : Int) : Option (Int × Int × Int) := if s0_1 < (s0_0.length : Int) then (if 0 ≤ s0_1 then (if (wrap64 (s0_1 + 1)) ≤ (s0_0.length : Int) then (some (wrap64 (rd s0_0 s0_1), wrap64 (s0_1 + 1), IntKind.u64.wrap ((IntKind.u64.wrap ((IntKind.u64.wrap (s0_2 * 6364136223846793005)) + (IntKind.u64.wrap (wrap64 (rd s0_0 s0_1))))) + 1442695040888963407))) else (some (wrap64 (Go.bits .and .u64 ((IntKind.u64.wrap ((IntKind.u64.wrap ((IntKind.u64.wrap (s0_2 * 6364136223846793005)) + (IntKind.u64.wrap (wrap64 (rd s0_0 s0_1))))) + 1442695040888963407)) / 1099511627776) 255), wrap64 (s0_1 + 1), IntKind.u64.wrap ((IntKind.u64.wrap ((IntKind.u64.wrap (s0_2 * 6364136223846793005)) + (IntKind.u64.wrap (wrap64 (rd s0_0 s0_1))))) + 1442695040888963407)))) else (none)) else (if (wrap64 (s0_1 + 1)) ≤ (s0_0.length : Int) then (some (0, wrap64 (s0_1 + 1), IntKind.u64.wrap ((IntKind.u64.wrap (IntKind.u64.wrap (s0_2 * 6364136223846793005))) + 1442695040888963407))) else (some (wrap64 (Go.bits .and .u64 ((IntKind.u64.wrap ((IntKind.u64.wrap (IntKind.u64.wrap (s0_2 * 6364136223846793005))) + 1442695040888963407)) / 1099511627776) 255), wrap64 (s0_1 + 1), IntKind.u64.wrap ((IntKind.u64.wrap (IntKind.u64.wrap (s0_2 * 6364136223846793005))) + 1442695040888963407))))
set_option maxHeartbeats 8000000 in
set_option maxRecDepth 100000 in
theorem spec_l00Src_next.calls (g : Nat) (s0_0 : List Int) (s0_1 : Int) (s0_2 : Int) (r1 : Int) (r2 : Int) (r3 : Int) (w0 w : World) (hI : IsS78 w0 w g s0_0 s0_1 s0_2) (hB : Below w0.heap.size w0 w) (h : spec_l00Src_next.f s0_0 s0_1 s0_2 = some (r1, r2, r3)) :
  Calls Try.prog 56 #[.pointer (some ⟨g, 0, none⟩)] w fun e w' => e = .returned (.int .i64 r1) ∧ IsS78 w0 w' g s0_0 r2 r3 ∧ Below w0.heap.size w0 w' ∧ KeepBut w w' g none := by
 have HI0 := Aside0.mk hI
 have HK := Aside0.mk (KeepBut.refl w g none)
 have HL := Aside0.mk hB.size
 clear hI
 have HW0 := Aside0.mk hB.size
 have HB := Aside0.mk hB
 clear hB
 have H : (if s0_1 < (s0_0.length : Int) then (if 0 ≤ s0_1 then (if (wrap64 (s0_1 + 1)) ≤ (s0_0.length : Int) then (some (wrap64 (rd s0_0 s0_1), wrap64 (s0_1 + 1), IntKind.u64.wrap ((IntKind.u64.wrap ((IntKind.u64.wrap (s0_2 * 6364136223846793005)) + (IntKind.u64.wrap (wrap64 (rd s0_0 s0_1))))) + 1442695040888963407))) else (some (wrap64 (Go.bits .and .u64 ((IntKind.u64.wrap ((IntKind.u64.wrap ((IntKind.u64.wrap (s0_2 * 6364136223846793005)) + (IntKind.u64.wrap (wrap64 (rd s0_0 s0_1))))) + 1442695040888963407)) / 1099511627776) 255), wrap64 (s0_1 + 1), IntKind.u64.wrap ((IntKind.u64.wrap ((IntKind.u64.wrap (s0_2 * 6364136223846793005)) + (IntKind.u64.wrap (wrap64 (rd s0_0 s0_1))))) + 1442695040888963407)))) else (none)) else (if (wrap64 (s0_1 + 1)) ≤ (s0_0.length : Int) then (some (0, wrap64 (s0_1 + 1), IntKind.u64.wrap ((IntKind.u64.wrap (IntKind.u64.wrap (s0_2 * 6364136223846793005))) + 1442695040888963407))) else (some (wrap64 (Go.bits .and .u64 ((IntKind.u64.wrap ((IntKind.u64.wrap (IntKind.u64.wrap (s0_2 * 6364136223846793005))) + 1442695040888963407)) / 1099511627776) 255), wrap64 (s0_1 + 1), IntKind.u64.wrap ((IntKind.u64.wrap (IntKind.u64.wrap (s0_2 * 6364136223846793005))) + 1442695040888963407))))) = some (r1, r2, r3) := h
 clear h
 by_cases c2 : s0_1 < (s0_0.length : Int)
 ·rw [if_pos c2] at H
  have c2b0 := decide_eq_true c2
  clear c2
  by_cases c3 : 0 ≤ s0_1
  rotate_left
  ·exact nope_ c3 H
  rw [if_pos c3] at H
  have c3b0 := decide_eq_true c3
  clear c3
  by_cases c4 : (wrap64 (s0_1 + 1)) ≤ (s0_0.length : Int)
  ·rw [if_pos c4] at H
   have c4b0 := decide_eq_true c4
   clear c4
   simp only [Option.some.injEq, Prod.mk.injEq] at H
   obtain ⟨rfl, rfl, rfl⟩ := H
   obtain ⟨ASz5_0, cSz5_0, HGz5, hgz5, HSz5_0⟩ := HI0.out
   have hcz5_0 := cellS78_0 HGz5
   have hcz5_1 := cellS78_1 HGz5
   have hcz5_2 := cellS78_2 HGz5
   have hfz5_1 := blk_frozen HGz5 1
   have hfz5_2 := blk_frozen HGz5 2
   clear HGz5 hgz5
   have p482 : 0 ≤ (s0_1 : Int) := od_
   have q482 : s0_1 < (s0_0.length : Int) := od_
   obtain ⟨ad482, e482, hx482_0⟩ := Kd.at_int HSz5_0 s0_1 p482 q482
   cases e482
   replace hx482_0 := pw_cell_below HB.out hx482_0
   replace p482 := eq_true p482
   replace q482 := eq_true q482
   go_enter Try.func56, Try.ntmps56
   go_wp2
   repeat (go_quiet (fail); try go_wp2)
   go_ret
   exact ⟨re_, by repeat (first | (with_reducible first | exact HI0.out | apply IsS78.alloc | apply IsS78.drewN | apply IsS78.drew | apply IsS78.set_1 | apply IsS78.set_2) | exact HI0.out), by repeat (first | (with_reducible first | exact HB.out | apply below_alloc | apply pw_below_drewN | apply below_drew1 | refine below_set ?_ (IsS78.ge HI0.out)) | exact HB.out), by repeat (first | (with_reducible first | exact HK.out | apply KeepBut.set_ | apply keep_drewN | apply keep_drew | apply keep_alloc) | exact HK.out)⟩
  ·rw [if_neg c4] at H
   have c4b0 := decide_eq_false c4
   clear c4
   simp only [Option.some.injEq, Prod.mk.injEq] at H
   obtain ⟨rfl, rfl, rfl⟩ := H
   obtain ⟨ASz6_0, cSz6_0, HGz6, hgz6, HSz6_0⟩ := HI0.out
   have hcz6_0 := cellS78_0 HGz6
   have hcz6_1 := cellS78_1 HGz6
   have hcz6_2 := cellS78_2 HGz6
   have hfz6_1 := blk_frozen HGz6 1
   have hfz6_2 := blk_frozen HGz6 2
   clear HGz6 hgz6
   have p482 : 0 ≤ (s0_1 : Int) := od_
   have q482 : s0_1 < (s0_0.length : Int) := od_
   obtain ⟨ad482, e482, hx482_0⟩ := Kd.at_int HSz6_0 s0_1 p482 q482
   cases e482
   replace hx482_0 := pw_cell_below HB.out hx482_0
   replace p482 := eq_true p482
   replace q482 := eq_true q482
   go_enter Try.func56, Try.ntmps56
   go_wp2
   repeat (go_quiet (fail); try go_wp2)
   go_ret
   exact ⟨re_, by repeat (first | (with_reducible first | exact HI0.out | apply IsS78.alloc | apply IsS78.drewN | apply IsS78.drew | apply IsS78.set_1 | apply IsS78.set_2) | exact HI0.out), by repeat (first | (with_reducible first | exact HB.out | apply below_alloc | apply pw_below_drewN | apply below_drew1 | refine below_set ?_ (IsS78.ge HI0.out)) | exact HB.out), by repeat (first | (with_reducible first | exact HK.out | apply KeepBut.set_ | apply keep_drewN | apply keep_drew | apply keep_alloc) | exact HK.out)⟩
 ·rw [if_neg c2] at H
  have c2b0 := decide_eq_false c2
  clear c2
  by_cases c7 : (wrap64 (s0_1 + 1)) ≤ (s0_0.length : Int)
  ·rw [if_pos c7] at H
   have c7b0 := decide_eq_true c7
   clear c7
   simp only [Option.some.injEq, Prod.mk.injEq] at H
   obtain ⟨rfl, rfl, rfl⟩ := H
   obtain ⟨ASz8_0, cSz8_0, HGz8, hgz8, HSz8_0⟩ := HI0.out
   have hcz8_0 := cellS78_0 HGz8
   have hcz8_1 := cellS78_1 HGz8
   have hcz8_2 := cellS78_2 HGz8
   have hfz8_1 := blk_frozen HGz8 1
   have hfz8_2 := blk_frozen HGz8 2
   clear HGz8 hgz8
   go_enter Try.func56, Try.ntmps56
   go_wp2
   repeat (go_quiet (fail); try go_wp2)
   go_ret
   exact ⟨re_, by repeat (first | (with_reducible first | exact HI0.out | apply IsS78.alloc | apply IsS78.drewN | apply IsS78.drew | apply IsS78.set_1 | apply IsS78.set_2) | exact HI0.out), by repeat (first | (with_reducible first | exact HB.out | apply below_alloc | apply pw_below_drewN | apply below_drew1 | refine below_set ?_ (IsS78.ge HI0.out)) | exact HB.out), by repeat (first | (with_reducible first | exact HK.out | apply KeepBut.set_ | apply keep_drewN | apply keep_drew | apply keep_alloc) | exact HK.out)⟩
  ·rw [if_neg c7] at H
   have c7b0 := decide_eq_false c7
   clear c7
   simp only [Option.some.injEq, Prod.mk.injEq] at H
   obtain ⟨rfl, rfl, rfl⟩ := H
   obtain ⟨ASz9_0, cSz9_0, HGz9, hgz9, HSz9_0⟩ := HI0.out
   have hcz9_0 := cellS78_0 HGz9
   have hcz9_1 := cellS78_1 HGz9
   have hcz9_2 := cellS78_2 HGz9
   have hfz9_1 := blk_frozen HGz9 1
   have hfz9_2 := blk_frozen HGz9 2
   clear HGz9 hgz9
   go_enter Try.func56, Try.ntmps56
   go_wp2
   repeat (go_quiet (fail); try go_wp2)
   go_ret
   exact ⟨re_, by repeat (first | (with_reducible first | exact HI0.out | apply IsS78.alloc | apply IsS78.drewN | apply IsS78.drew | apply IsS78.set_1 | apply IsS78.set_2) | exact HI0.out), by repeat (first | (with_reducible first | exact HB.out | apply below_alloc | apply pw_below_drewN | apply below_drew1 | refine below_set ?_ (IsS78.ge HI0.out)) | exact HB.out), by repeat (first | (with_reducible first | exact HK.out | apply KeepBut.set_ | apply keep_drewN | apply keep_drew | apply keep_alloc) | exact HK.out)⟩

/-! ### spec_l00Src_pick: function 41 -/
def spec_l00Src_pick.f (s0_0 : List Int) (s0_1 : Int) (s0_2 : Int) (a1 : Int) : Option (Int × Int × Int) := if a1 ≤ 1 then (some (0, s0_1, s0_2)) else ((spec_l00Src_next.f s0_0 s0_1 s0_2).bind fun bt483 => (if a1 > 200 then ((spec_l00Src_next.f s0_0 bt483.2.1 bt483.2.2).bind fun bt486 => (if a1 = 0 then (none) else (some (Int.tmod (wrap64 ((wrap64 (bt483.1 * 256)) + bt486.1)) a1, bt486.2.1, bt486.2.2)))) else (if a1 = 0 then (none) else (some (Int.tmod bt483.1 a1, bt483.2.1, bt483.2.2)))))
set_option maxHeartbeats 8000000 in
set_option maxRecDepth 100000 in
theorem spec_l00Src_pick.calls (g : Nat) (s0_0 : List Int) (s0_1 : Int) (s0_2 : Int) (a1 : Int) (r1 : Int) (r2 : Int) (r3 : Int) (w0 w : World) (hI : IsS78 w0 w g s0_0 s0_1 s0_2) (hB : Below w0.heap.size w0 w) (h : spec_l00Src_pick.f s0_0 s0_1 s0_2 a1 = some (r1, r2, r3)) :
  Calls Try.prog 41 #[.pointer (some ⟨g, 0, none⟩), .int .i64 a1] w fun e w' => e = .returned (.int .i64 r1) ∧ IsS78 w0 w' g s0_0 r2 r3 ∧ Below w0.heap.size w0 w' ∧ KeepBut w w' g none := by
 have HI0 := Aside0.mk hI
 have HK := Aside0.mk (KeepBut.refl w g none)
 have HL := Aside0.mk hB.size
 clear hI
 have HW0 := Aside0.mk hB.size
 have HB := Aside0.mk hB
 clear hB
 have H : (if a1 ≤ 1 then (some (0, s0_1, s0_2)) else ((spec_l00Src_next.f s0_0 s0_1 s0_2).bind fun bt483 => (if a1 > 200 then ((spec_l00Src_next.f s0_0 bt483.2.1 bt483.2.2).bind fun bt486 => (if a1 = 0 then (none) else (some (Int.tmod (wrap64 ((wrap64 (bt483.1 * 256)) + bt486.1)) a1, bt486.2.1, bt486.2.2)))) else (if a1 = 0 then (none) else (some (Int.tmod bt483.1 a1, bt483.2.1, bt483.2.2)))))) = some (r1, r2, r3) := h
 clear h
 by_cases c3 : a1 ≤ 1
 ·rw [if_pos c3] at H
  have c3b0 := decide_eq_true c3
  clear c3
  simp only [Option.some.injEq, Prod.mk.injEq] at H
  obtain ⟨rfl, rfl, rfl⟩ := H
  go_enter Try.func41, Try.ntmps41
  go_wp2
  go_ret
  exact ⟨re_, by repeat (first | (with_reducible first | exact HI0.out | apply IsS78.alloc | apply IsS78.drewN | apply IsS78.drew | apply IsS78.set_1 | apply IsS78.set_2) | exact HI0.out), by repeat (first | (with_reducible first | exact HB.out | apply below_alloc | apply pw_below_drewN | apply below_drew1 | refine below_set ?_ (IsS78.ge HI0.out)) | exact HB.out), by repeat (first | (with_reducible first | exact HK.out | apply KeepBut.set_ | apply keep_drewN | apply keep_drew | apply keep_alloc) | exact HK.out)⟩
 ·rw [if_neg c3] at H
  have c3b0 := decide_eq_false c3
  clear c3
  replace H := Option.bind_eq_some_iff.mp H
  obtain ⟨⟨t483, t484, t485⟩, A40, H⟩ := H
  replace H : (if a1 > 200 then ((spec_l00Src_next.f s0_0 t484 t485).bind fun bt486 => (if a1 = 0 then (none) else (some (Int.tmod (wrap64 ((wrap64 (t483 * 256)) + bt486.1)) a1, bt486.2.1, bt486.2.2)))) else (if a1 = 0 then (none) else (some (Int.tmod t483 a1, t484, t485)))) = some (r1, r2, r3) := H
  have A4 := Aside0.mk A40
  clear A40
  by_cases c5 : a1 > 200
  ·rw [if_pos c5] at H
   have c5b0 : decide (200 < a1) = true := decide_eq_true c5
   clear c5
   replace H := Option.bind_eq_some_iff.mp H
   obtain ⟨⟨t486, t487, t488⟩, A60, H⟩ := H
   replace H : (if a1 = 0 then (none) else (some (Int.tmod (wrap64 ((wrap64 (t483 * 256)) + t486)) a1, t487, t488))) = some (r1, r2, r3) := H
   have A6 := Aside0.mk A60
   clear A60
   by_cases c7 : a1 = 0
   ·rw [if_pos c7] at H
    exact absurd H (by simp)
   ·rw [if_neg c7] at H
    have c7b0 : (a1 == 0) = false := beq_eq_false_iff_ne.mpr c7
    have c7b1 : (a1 != 0) = true := bne_iff_ne.mpr c7
    simp only [Option.some.injEq, Prod.mk.injEq] at H
    obtain ⟨rfl, rfl, rfl⟩ := H
    go_enter Try.func41, Try.ntmps41
    go_wp2_with (first | ((with_reducible refine gate_callee (f := 56) rfl ?_); refine goesL_ (some 9) rfl rfl Try.func56 (by kernel_rfl) rfl #[.pointer (some ⟨g, 0, none⟩)] rfl mp_ ?_; (with_reducible refine (spec_l00Src_next.calls g s0_0 s0_1 s0_2 t483 t484 t485 w0 _ ?side1 ?side2 A4.out).mono ?_); (case side1 => repeat (first | (with_reducible first | exact HI0.out | apply IsS78.alloc | apply IsS78.drewN | apply IsS78.drew | apply IsS78.set_1 | apply IsS78.set_2) | exact HI0.out)); (case side2 => repeat (first | (with_reducible first | exact HB.out | apply below_alloc | apply pw_below_drewN | apply below_drew1 | refine below_set ?_ (IsS78.ge HI0.out)) | exact HB.out)); rintro e w8 ⟨rfl, hi, hb, hk⟩; refine ⟨_, rfl, ?_⟩; have n0_ := Aside0.mk (KeepBut.trans (by repeat (first | (with_reducible first | exact HK.out | apply KeepBut.set_ | apply keep_drewN | apply keep_drew | apply keep_alloc) | exact HK.out)) hk (.inl rfl)); have n1_ := Aside0.mk (hb); have n2_ := Aside0.mk (hi); clear HK; clear HB; clear HI0; have HK := n0_; have HB := n1_; have HI0 := n2_; clear n0_ n1_ n2_; (try clear hb); (try clear hb2); (try clear hk); (try clear hi)) | ((with_reducible refine gate_callee (f := 56) rfl ?_); refine goesL_ (some 15) rfl rfl Try.func56 (by kernel_rfl) rfl #[.pointer (some ⟨g, 0, none⟩)] rfl mp_ ?_; (with_reducible refine (spec_l00Src_next.calls g s0_0 t484 t485 t486 t487 t488 w0 _ ?side1 ?side2 A6.out).mono ?_); (case side1 => repeat (first | (with_reducible first | exact HI0.out | apply IsS78.alloc | apply IsS78.drewN | apply IsS78.drew | apply IsS78.set_1 | apply IsS78.set_2) | exact HI0.out)); (case side2 => repeat (first | (with_reducible first | exact HB.out | apply below_alloc | apply pw_below_drewN | apply below_drew1 | refine below_set ?_ (IsS78.ge HI0.out)) | exact HB.out)); rintro e w9 ⟨rfl, hi, hb, hk⟩; refine ⟨_, rfl, ?_⟩; have n0_ := Aside0.mk (KeepBut.trans (by repeat (first | (with_reducible first | exact HK.out | apply KeepBut.set_ | apply keep_drewN | apply keep_drew | apply keep_alloc) | exact HK.out)) hk (.inl rfl)); have n1_ := Aside0.mk (hb); have n2_ := Aside0.mk (hi); clear HK; clear HB; clear HI0; have HK := n0_; have HB := n1_; have HI0 := n2_; clear n0_ n1_ n2_; (try clear hb); (try clear hb2); (try clear hk); (try clear hi)))
    go_ret
    exact ⟨re_, by repeat (first | (with_reducible first | exact HI0.out | apply IsS78.alloc | apply IsS78.drewN | apply IsS78.drew | apply IsS78.set_1 | apply IsS78.set_2) | exact HI0.out), by repeat (first | (with_reducible first | exact HB.out | apply below_alloc | apply pw_below_drewN | apply below_drew1 | refine below_set ?_ (IsS78.ge HI0.out)) | exact HB.out), by repeat (first | (with_reducible first | exact HK.out | apply KeepBut.set_ | apply keep_drewN | apply keep_drew | apply keep_alloc) | exact HK.out)⟩
  ·rw [if_neg c5] at H
   have c5b0 : decide (200 < a1) = false := decide_eq_false c5
   clear c5
   by_cases c10 : a1 = 0
   ·rw [if_pos c10] at H
    exact absurd H (by simp)
   ·rw [if_neg c10] at H
    have c10b0 : (a1 == 0) = false := beq_eq_false_iff_ne.mpr c10
    have c10b1 : (a1 != 0) = true := bne_iff_ne.mpr c10
    simp only [Option.some.injEq, Prod.mk.injEq] at H
    obtain ⟨rfl, rfl, rfl⟩ := H
    go_enter Try.func41, Try.ntmps41
    go_wp2_with (first | ((with_reducible refine gate_callee (f := 56) rfl ?_); refine goesL_ (some 9) rfl rfl Try.func56 (by kernel_rfl) rfl #[.pointer (some ⟨g, 0, none⟩)] rfl mp_ ?_; (with_reducible refine (spec_l00Src_next.calls g s0_0 s0_1 s0_2 t483 t484 t485 w0 _ ?side1 ?side2 A4.out).mono ?_); (case side1 => repeat (first | (with_reducible first | exact HI0.out | apply IsS78.alloc | apply IsS78.drewN | apply IsS78.drew | apply IsS78.set_1 | apply IsS78.set_2) | exact HI0.out)); (case side2 => repeat (first | (with_reducible first | exact HB.out | apply below_alloc | apply pw_below_drewN | apply below_drew1 | refine below_set ?_ (IsS78.ge HI0.out)) | exact HB.out)); rintro e w11 ⟨rfl, hi, hb, hk⟩; refine ⟨_, rfl, ?_⟩; have n0_ := Aside0.mk (KeepBut.trans (by repeat (first | (with_reducible first | exact HK.out | apply KeepBut.set_ | apply keep_drewN | apply keep_drew | apply keep_alloc) | exact HK.out)) hk (.inl rfl)); have n1_ := Aside0.mk (hb); have n2_ := Aside0.mk (hi); clear HK; clear HB; clear HI0; have HK := n0_; have HB := n1_; have HI0 := n2_; clear n0_ n1_ n2_; (try clear hb); (try clear hb2); (try clear hk); (try clear hi)))
    go_ret
    exact ⟨re_, by repeat (first | (with_reducible first | exact HI0.out | apply IsS78.alloc | apply IsS78.drewN | apply IsS78.drew | apply IsS78.set_1 | apply IsS78.set_2) | exact HI0.out), by repeat (first | (with_reducible first | exact HB.out | apply below_alloc | apply pw_below_drewN | apply below_drew1 | refine below_set ?_ (IsS78.ge HI0.out)) | exact HB.out), by repeat (first | (with_reducible first | exact HK.out | apply KeepBut.set_ | apply keep_drewN | apply keep_drew | apply keep_alloc) | exact HK.out)⟩

/-! ### spec_l30Put: function 42 -/
def spec_l30Put.l0 : Nat → List (S75) → Int → Int → Int → Int → Option ((List (S75)))
 | 0, _, _, _, _, _ => none
 | k + 1, x0, x5, x490000, x490001, x490002 => if x5 > 0 then (if 0 ≤ (wrap64 (x5 - 1)) then (if (wrap64 (x5 - 1)) < (x0.length : Int) then ((spec_l30Less.f x490000 x490001 x490002 ((rd_T75 x0 (wrap64 (x5 - 1))).f0) ((rd_T75 x0 (wrap64 (x5 - 1))).f1) ((rd_T75 x0 (wrap64 (x5 - 1))).f2)).bind fun t491 => (if t491 = true then (spec_l30Put.l0 k x0 (wrap64 (x5 - 1)) x490000 x490001 x490002) else ((some (([] : List (S75)) : List (S75))).bind fun y492 => (if 0 ≤ x5 then (if x5 ≤ (x0.length : Int) then ((some (x0.take (x5 : Int).toNat : List (S75))).bind fun y495 => (if y492.length + y495.length < 5864062014805 then ((some (y492 ++ y495 : List (S75))).bind fun y499 => (if y499.length < 5864062014805 then ((some (y499 ++ [(⟨x490000, x490001, x490002⟩ : S75)] : List (S75))).bind fun y502 => ((some (x0.drop (x5 : Int).toNat : List (S75))).bind fun y505 => (if y502.length + y505.length < 5864062014805 then (some (y502 ++ y505)) else (none)))) else (none))) else (none))) else (none)) else (none))))) else (none)) else (none)) else ((some (([] : List (S75)) : List (S75))).bind fun y512 => (if 0 ≤ x5 then (if x5 ≤ (x0.length : Int) then ((some (x0.take (x5 : Int).toNat : List (S75))).bind fun y515 => (if y512.length + y515.length < 5864062014805 then ((some (y512 ++ y515 : List (S75))).bind fun y519 => (if y519.length < 5864062014805 then ((some (y519 ++ [(⟨x490000, x490001, x490002⟩ : S75)] : List (S75))).bind fun y522 => ((some (x0.drop (x5 : Int).toNat : List (S75))).bind fun y525 => (if y522.length + y525.length < 5864062014805 then (some (y522 ++ y525)) else (none)))) else (none))) else (none))) else (none)) else (none)))
def spec_l30Put.f (k : Nat) (l0 : List (S75)) (a1_0 : Int) (a1_1 : Int) (a1_2 : Int) : Option ((List (S75))) := spec_l30Put.l0 k l0 (l0.length : Int) a1_0 a1_1 a1_2
theorem spec_l30Put.mono_l : ∀ k, (∀ y0 y1 y2 y3 y4, LeO (spec_l30Put.l0 k y0 y1 y2 y3 y4) (spec_l30Put.l0 (k + 1) y0 y1 y2 y3 y4))
 | 0 => fun _ _ _ _ _ r h => by simp [spec_l30Put.l0] at h
 | k + 1 => by
  have ih0 := spec_l30Put.mono_l k
  ·intro y0 y1 y2 y3 y4
   unfold spec_l30Put.l0
   repeat' first
   | (with_reducible exact ih0 _ _ _ _ _)
   | (with_reducible exact LeO.refl _)
   | (with_reducible exact LeO.none _)
   | (with_reducible refine LeO.ite ?_ ?_)
   | (with_reducible refine LeO.bind ?_ (fun _ => ?_))
theorem spec_l30Put.mono : ∀ a0 a1 a2 a3 k, LeO (spec_l30Put.f k a0 a1 a2 a3) (spec_l30Put.f (k + 1) a0 a1 a2 a3) := by
 intro a0 a1 a2 a3 k
 have ih0 := spec_l30Put.mono_l k
 unfold spec_l30Put.f
 repeat' first
   | (with_reducible exact ih0 _ _ _ _ _)
   | (with_reducible exact LeO.refl _)
   | (with_reducible exact LeO.none _)
   | (with_reducible refine LeO.ite ?_ ?_)
   | (with_reducible refine LeO.bind ?_ (fun _ => ?_))
def spec_l30Put.T2 : Bool × List (List Nat × List Nat) := (true, [([], []), ([0], [0]), ([1], [1]), ([2], [2]), ([2], [2]), ([2], [2]), ([5, 2], [2, 5]), ([4, 6, 2], [2, 4, 6]), ([7, 2], [2, 7]), ([3, 8, 2, 2], [2, 3, 8]), ([2, 9], [2, 9])])
def spec_l30Put.B2 : List Nat := [0, 1, 3, 7, 7, 7, 39, 119, 247, 511, 1023]
theorem spec_l30Put.tab2 : rtab .any (opsOf Try.f42 2) = spec_l30Put.T2 := by kernel_rfl
theorem spec_l30Put.bits2 : waitsOk spec_l30Put.T2.2 spec_l30Put.B2 = true := by kernel_rfl
set_option maxHeartbeats 8000000 in
set_option maxRecDepth 100000 in
theorem spec_l30Put.calls (k : Nat) (A0 : Option Addr) (c0 : Nat) (l0 : List (S75)) (a1_0 : Int) (a1_1 : Int) (a1_2 : Int) (r : List (S75)) (w : World) (hr0 : Kd.C k75 w A0 l0.length l0) (hc0 : l0.length ≤ c0) (h : spec_l30Put.f k l0 a1_0 a1_1 a1_2 = some r) :
  Calls Try.prog 42 #[.slice A0 l0.length c0, .agg #[.int .i64 a1_0, .int .i64 a1_1, .int .i64 a1_2]] w fun e w' => ∃ v0_ : Value, e = .returned (v0_) ∧ Kd.R k75 75 w' w.heap.size (fun _ => True) v0_ r ∧ Below w.heap.size w w' := by
 have hu75 := Try.underlying75
 have HR0 := Aside0.mk hr0
 have HC0 := Aside0.mk hc0
 clear hr0 hc0
 have HB := Aside0.mk (Below.refl w.heap.size w)
 have H : (spec_l30Put.l0 k l0 (l0.length : Int) a1_0 a1_1 a1_2) = some r := h
 clear h
 have H' := Aside0.mk H
 clear H
 go_enter Try.func42, Try.ntmps42
 go_wp2_with (first | ((with_reducible refine gate_dst (N := 3) rfl ?_); refine box_event ?hg (N := 3) ?hd (cs := #[.int .i64 a1_0, .int .i64 a1_1, .int .i64 a1_2]) (t := 75) ?hr ?_; (case hd => rfl); (case hg => rfl); (case hr => first | (go_simp; done) | (go_simp; rfl)); intro gb489 hg w3 hbox hb; have n0_ := Aside0.mk (below_step (bl0_ HB.out) hb); have n1_ := Aside0.mk (hbox); have n2_ := Aside0.mk ((by rw [hg]; exact (below_size (bl0_ HB.out)) : w.heap.size ≤ gb489)); have n3_ := Aside0.mk ((by rw [hg]; exact (below_size (bl0_ HB.out)) : w.heap.size ≤ gb489)); clear HB; have HB := n0_; have BK489 := n1_; have GW489 := n2_; have GE489 := n3_; clear n0_ n1_ n2_ n3_; clear hb hbox hg))
 go_loopg [5] k (fun kq v5 w' => ∃ (x5_1 : Int), v5 = .int .i64 x5_1 ∧ Aside0 (spec_l30Put.l0 kq l0 x5_1 a1_0 a1_1 a1_2 = some r) ∧ Aside0 (kq ≤ k) ∧ Aside0 (w'.heap[gb489]? = some (.cells #[.int .i64 a1_0, .int .i64 a1_1, .int .i64 a1_2] 75 (0, 0))) ∧ Aside0 (Below w.heap.size w w'))
 case atStart => exact ⟨((l0.length : Int)), rs_, H', ⟨Nat.le_refl _⟩, ⟨bk_ BK489.out⟩, ⟨bl1_ HB.out GE489.out⟩⟩
 case round =>
  clear H'
  try clear p2
  obtain ⟨x5_1, rfl, HA, HK1, BK489, HB⟩ := hrel
  cases gk with
  | zero => exact absurd HA.out (by simp [spec_l30Put.l0])
  | succ k1 =>
   have H := HA.out
   clear HA
   simp only [spec_l30Put.l0] at H
   by_cases c4 : x5_1 > 0
   ·rw [if_pos c4] at H
    have c4b0 : decide (0 < x5_1) = true := decide_eq_true c4
    clear c4
    obtain ⟨ji5, hji5⟩ : ∃ j_ : Int, (wrap64 (x5_1 - 1)) = j_ := ⟨_, rfl⟩
    replace H : (if 0 ≤ (ji5) then (if (ji5) < (l0.length : Int) then ((spec_l30Less.f a1_0 a1_1 a1_2 ((rd_T75 l0 (ji5)).f0) ((rd_T75 l0 (ji5)).f1) ((rd_T75 l0 (ji5)).f2)).bind fun t491 => (if t491 = true then (spec_l30Put.l0 k1 l0 ji5 a1_0 a1_1 a1_2) else ((some (([] : List (S75)) : List (S75))).bind fun y492 => (if 0 ≤ x5_1 then (if x5_1 ≤ (l0.length : Int) then ((some (l0.take (x5_1 : Int).toNat : List (S75))).bind fun y495 => (if y492.length + y495.length < 5864062014805 then ((some (y492 ++ y495 : List (S75))).bind fun y499 => (if y499.length < 5864062014805 then ((some (y499 ++ [(⟨a1_0, a1_1, a1_2⟩ : S75)] : List (S75))).bind fun y502 => ((some (l0.drop (x5_1 : Int).toNat : List (S75))).bind fun y505 => (if y502.length + y505.length < 5864062014805 then (some (y502 ++ y505)) else (none)))) else (none))) else (none))) else (none)) else (none))))) else (none)) else (none)) = some r := by first | (rw [hji5] at H; exact H) | (simp only [hji5] at H ⊢; exact H)
    have hji5w : (IntKind.i64.wrap (x5_1 - 1)) = ji5 := (i64_w _).trans hji5
    by_cases c6 : 0 ≤ (ji5)
    rotate_left
    ·exact nope_ c6 H
    rw [if_pos c6] at H
    have c6b0 := decide_eq_true c6
    clear c6
    by_cases c7 : (ji5) < (l0.length : Int)
    rotate_left
    ·exact nope_ c7 H
    rw [if_pos c7] at H
    have c7b0 := decide_eq_true c7
    clear c7
    replace H := Option.bind_eq_some_iff.mp H
    obtain ⟨t491, A80, H⟩ := H
    replace H : (if t491 = true then (spec_l30Put.l0 k1 l0 ji5 a1_0 a1_1 a1_2) else ((some (([] : List (S75)) : List (S75))).bind fun y492 => (if 0 ≤ x5_1 then (if x5_1 ≤ (l0.length : Int) then ((some (l0.take (x5_1 : Int).toNat : List (S75))).bind fun y495 => (if y492.length + y495.length < 5864062014805 then ((some (y492 ++ y495 : List (S75))).bind fun y499 => (if y499.length < 5864062014805 then ((some (y499 ++ [(⟨a1_0, a1_1, a1_2⟩ : S75)] : List (S75))).bind fun y502 => ((some (l0.drop (x5_1 : Int).toNat : List (S75))).bind fun y505 => (if y502.length + y505.length < 5864062014805 then (some (y502 ++ y505)) else (none)))) else (none))) else (none))) else (none)) else (none)))) = some r := H
    have A8 := Aside0.mk A80
    clear A80
    by_cases c9 : t491 = true
    ·subst c9
     have H1 : (spec_l30Put.l0 k1 l0 ji5 a1_0 a1_1 a1_2) = some r := by rw [if_pos rfl] at H; exact H
     clear H
     have H := H1
     clear H1
     have H' := Aside0.mk H
     clear H
     try go_wp2
     have n0_ := Aside0.mk (blk_drew BK489.out)
     have n1_ := Aside0.mk (below_drew1 HB.out)
     clear BK489
     clear HB
     have BK489 := n0_
     have HB := n1_
     clear n0_ n1_
     have p490 : 0 ≤ ((ji5) : Int) := od_
     have q490 : (ji5) < (l0.length : Int) := od_
     obtain ⟨ad490, e490, hx490_0, hx490_1, hx490_2⟩ := at_T75 HR0.out (ji5) p490 q490
     have hw490_2 := hx490_2
     have hw490_1 := hx490_1
     have hw490_0 := hx490_0
     cases e490
     replace hx490_0 := (HB.out.cell (World.block_lt_of_cell? w _ hx490_0)).trans hx490_0
     replace hx490_1 := (HB.out.cell (World.block_lt_of_cell? w _ hx490_1)).trans hx490_1
     replace hx490_2 := (HB.out.cell (World.block_lt_of_cell? w _ hx490_2)).trans hx490_2
     replace p490 := eq_true p490
     replace q490 := eq_true q490
     refine start_ (n := 11) (S := fun w' => w'.cell? ⟨gb489, 0, none⟩ = some (.int .i64 a1_0) ∧ w'.cell? ⟨gb489, 1, none⟩ = some (.int .i64 a1_1) ∧ w'.cell? ⟨gb489, 2, none⟩ = some (.int .i64 a1_2) ∧ w'.cell? (ad490.add (((ji5)).toNat * 3)) = some (.int .i64 ((rd_T75 l0 (ji5)).f0)) ∧ w'.cell? ⟨(ad490.add (((ji5)).toNat * 3)).block, (ad490.add (((ji5)).toNat * 3)).off + 1, none⟩ = some (.int .i64 ((rd_T75 l0 (ji5)).f1)) ∧ w'.cell? ⟨(ad490.add (((ji5)).toNat * 3)).block, (ad490.add (((ji5)).toNat * 3)).off + 2, none⟩ = some (.int .i64 ((rd_T75 l0 (ji5)).f2))) (ds := []) (nb_ 11 0) (by kernel_rfl) rfl rfl ⟨(blk_cell BK489.out 0).trans rfl, (blk_cell BK489.out 1).trans rfl, (blk_cell BK489.out 2).trans rfl, ((HB.out.cell (World.block_lt_of_cell? w _ hw490_0)).trans hw490_0), ((HB.out.cell (World.block_lt_of_cell? w _ hw490_1)).trans hw490_1), ((HB.out.cell (World.block_lt_of_cell? w _ hw490_2)).trans hw490_2)⟩ (fun hHeld => ?_); refine with_tabW spec_l30Put.tab2 spec_l30Put.bits2 (fun HT_ HW_ => ?_)
     generalize wr.drew = w10 at BK489 HB hx490_0 hx490_1 hx490_2 hHeld ⊢
     refine puz_ 0 (some 9) (nb_ 11 1) rfl rfl (any_of HT_.out (by kernel_rfl)) ?_
     refine puz_ 1 (some 10) (nb_ 11 3) rfl rfl (any_of HT_.out (by kernel_rfl)) ?_
     refine puz_ 2 (some 11) (nb_ 11 7) rfl rfl (any_of HT_.out (by kernel_rfl)) ?_
     refine puz_ 4 (some 13) (nb_ 11 23) rfl rfl (any_of HT_.out (by kernel_rfl)) ?_
     refine puz_ 5 (some 14) (nb_ 11 55) rfl rfl (any_of HT_.out (by kernel_rfl)) ?_
     refine puz_ 6 (some 15) (nb_ 11 119) rfl rfl (any_of HT_.out (by kernel_rfl)) ?_
     refine puz_ 7 (some 16) (nb_ 11 247) rfl rfl (any_of HT_.out (by kernel_rfl)) ?_
     refine tkz_ 3 (some 12) (nb_ 11 255) rfl rfl (take_ofW HT_.out HW_.out (by kernel_rfl)) hHeld ?_
     refine tkz_ 8 (some 17) (nb_ 11 511) rfl rfl (take_ofW HT_.out HW_.out (by kernel_rfl)) hHeld ?_
     refine one_ (i := 9) (N := some 18) (nb_ 11 1023) rfl rfl (one_of HT_.out (by kernel_rfl)) (by decide) (fun K hK => ?_)
     refine goes_ Try.func49 (by kernel_rfl) rfl #[.agg #[.int .i64 a1_0, .int .i64 a1_1, .int .i64 a1_2], .agg #[.int .i64 ((rd_T75 l0 (ji5)).f0), .int .i64 ((rd_T75 l0 (ji5)).f1), .int .i64 ((rd_T75 l0 (ji5)).f2)]] (by rfl) rfl rfl (by (try simp only [List.map_toArray, List.map_cons, List.map_nil]); first | done | (simp only [hji5]; rfl) | rfl | (simp only [List.length_drop, List.length_take]; rfl)) ?_
     with_reducible refine (spec_l30Less.calls a1_0 a1_1 a1_2 ((rd_T75 l0 (ji5)).f0) ((rd_T75 l0 (ji5)).f1) ((rd_T75 l0 (ji5)).f2) true _ A8.out).mono ?_
     rintro e w11 ⟨rfl, hb⟩
     refine ⟨_, rfl, ?_⟩
     have n0_ := Aside0.mk (blk_below (g := gb489) (o := .cells #[.int .i64 a1_0, .int .i64 a1_1, .int .i64 a1_2] 75 (0, 0)) (bk_ BK489.out) hb)
     have n1_ := Aside0.mk (below_step (bl1_ HB.out GE489.out) hb)
     clear BK489
     clear HB
     have BK489 := n0_
     have HB := n1_
     clear n0_ n1_
     (try clear hb)
     (try clear hb2)
     (try clear hk)
     (try clear hi)
     refine hK.out _ _ ⟨(blk_cell BK489.out 0).trans rfl, (blk_cell BK489.out 1).trans rfl, (blk_cell BK489.out 2).trans rfl, ((HB.out.cell (World.block_lt_of_cell? w _ hw490_0)).trans hw490_0), ((HB.out.cell (World.block_lt_of_cell? w _ hw490_1)).trans hw490_1), ((HB.out.cell (World.block_lt_of_cell? w _ hw490_2)).trans hw490_2)⟩ (fun hHeld => ?_)
     clear hK K
     refine norm_ (a' := ?_) ?_ ?_
     rotate_left
     ·show Act.put _ (some 18) _ = _
      simp only [Act.put, List.setIfInBounds_toArray, List.set_cons_zero, List.set_cons_succ, i64_w, i32_w]
      rfl
     refine puz_ 10 (some 19) (nb_ 11 2047) rfl rfl (any_of HT_.out (by kernel_rfl)) ?_
     refine done_ (done_of HT_.out (by kernel_rfl)) ?_
     try go_wp2
     go_roundg k1
     case measure => have := HK1.out; omega
     case rel => exact ⟨(ji5), (by first | rfl | (simp; done) | (simp only [← hji5] <;> (first | rfl | simp)) | (simp [*]; done)), H', ⟨by have := HK1.out; omega⟩, ⟨bk_ BK489.out⟩, ⟨bl1_ HB.out GE489.out⟩⟩
    ·replace c9 := Bool.eq_false_iff.mpr c9
     subst c9
     have H1 : ((some (([] : List (S75)) : List (S75))).bind fun y492 => (if 0 ≤ x5_1 then (if x5_1 ≤ (l0.length : Int) then ((some (l0.take (x5_1 : Int).toNat : List (S75))).bind fun y495 => (if y492.length + y495.length < 5864062014805 then ((some (y492 ++ y495 : List (S75))).bind fun y499 => (if y499.length < 5864062014805 then ((some (y499 ++ [(⟨a1_0, a1_1, a1_2⟩ : S75)] : List (S75))).bind fun y502 => ((some (l0.drop (x5_1 : Int).toNat : List (S75))).bind fun y505 => (if y502.length + y505.length < 5864062014805 then (some (y502 ++ y505)) else (none)))) else (none))) else (none))) else (none)) else (none))) = some r := by rw [if_neg (show ¬ (false = true) by decide)] at H; exact H
     clear H
     have H := H1
     clear H1
     obtain ⟨y492, hy492⟩ : ∃ y_ : List (S75), y_ = (([] : List (S75))) := ⟨_, rfl⟩
     replace H : (if 0 ≤ x5_1 then (if x5_1 ≤ (l0.length : Int) then ((some (l0.take (x5_1 : Int).toNat : List (S75))).bind fun y495 => (if y492.length + y495.length < 5864062014805 then ((some (y492 ++ y495 : List (S75))).bind fun y499 => (if y499.length < 5864062014805 then ((some (y499 ++ [(⟨a1_0, a1_1, a1_2⟩ : S75)] : List (S75))).bind fun y502 => ((some (l0.drop (x5_1 : Int).toNat : List (S75))).bind fun y505 => (if y502.length + y505.length < 5864062014805 then (some (y502 ++ y505)) else (none)))) else (none))) else (none))) else (none)) else (none)) = some r := yh_ H hy492
     have Ny492 := Aside0.mk hy492
     clear hy492
     by_cases c12 : 0 ≤ x5_1
     rotate_left
     ·exact nope_ c12 H
     rw [if_pos c12] at H
     have c12b0 := eq_true c12
     have c12b1 := decide_eq_true c12
     clear c12
     by_cases c13 : x5_1 ≤ (l0.length : Int)
     rotate_left
     ·exact nope_ c13 H
     rw [if_pos c13] at H
     have c13b0 := eq_true c13
     have c13b1 := decide_eq_true c13
     clear c13
     obtain ⟨y495, hy495⟩ : ∃ y_ : List (S75), y_ = (l0.take (x5_1 : Int).toNat) := ⟨_, rfl⟩
     replace H : (if y492.length + y495.length < 5864062014805 then ((some (y492 ++ y495 : List (S75))).bind fun y499 => (if y499.length < 5864062014805 then ((some (y499 ++ [(⟨a1_0, a1_1, a1_2⟩ : S75)] : List (S75))).bind fun y502 => ((some (l0.drop (x5_1 : Int).toNat : List (S75))).bind fun y505 => (if y502.length + y505.length < 5864062014805 then (some (y502 ++ y505)) else (none)))) else (none))) else (none)) = some r := yh_ H hy495
     have Ny495 := Aside0.mk hy495
     clear hy495
     by_cases c14 : y492.length + y495.length < 5864062014805
     rotate_left
     ·exact nope_ c14 H
     rw [if_pos c14] at H
     have LMc14 := Aside0.mk c14
     clear c14
     obtain ⟨y499, hy499⟩ : ∃ y_ : List (S75), y_ = (y492 ++ y495) := ⟨_, rfl⟩
     replace H : (if y499.length < 5864062014805 then ((some (y499 ++ [(⟨a1_0, a1_1, a1_2⟩ : S75)] : List (S75))).bind fun y502 => ((some (l0.drop (x5_1 : Int).toNat : List (S75))).bind fun y505 => (if y502.length + y505.length < 5864062014805 then (some (y502 ++ y505)) else (none)))) else (none)) = some r := yh_ H hy499
     have Ny499 := Aside0.mk hy499
     clear hy499
     by_cases c15 : y499.length < 5864062014805
     rotate_left
     ·exact nope_ c15 H
     rw [if_pos c15] at H
     have LMc15 := Aside0.mk c15
     clear c15
     obtain ⟨y502, hy502⟩ : ∃ y_ : List (S75), y_ = (y499 ++ [(⟨a1_0, a1_1, a1_2⟩ : S75)]) := ⟨_, rfl⟩
     replace H : ((some (l0.drop (x5_1 : Int).toNat : List (S75))).bind fun y505 => (if y502.length + y505.length < 5864062014805 then (some (y502 ++ y505)) else (none))) = some r := yh_ H hy502
     have Ny502 := Aside0.mk hy502
     clear hy502
     have c16b0 := eq_true (od_ : 0 ≤ x5_1)
     have c17b0 := eq_true (od_ : x5_1 ≤ (l0.length : Int))
     obtain ⟨y505, hy505⟩ : ∃ y_ : List (S75), y_ = (l0.drop (x5_1 : Int).toNat) := ⟨_, rfl⟩
     replace H : (if y502.length + y505.length < 5864062014805 then (some (y502 ++ y505)) else (none)) = some r := yh_ H hy505
     have Ny505 := Aside0.mk hy505
     clear hy505
     by_cases c18 : y502.length + y505.length < 5864062014805
     rotate_left
     ·exact nope_ c18 H
     rw [if_pos c18] at H
     have LMc18 := Aside0.mk c18
     clear c18
     obtain ⟨y509, hy509⟩ : ∃ y_ : List (S75), y_ = (y502 ++ y505) := ⟨_, rfl⟩
     replace H : (some y509) = some r := yh_ H hy509
     have Ny509 := Aside0.mk hy509
     clear hy509
     obtain rfl := Option.some.inj H
     try go_wp2
     have n0_ := Aside0.mk (blk_drew BK489.out)
     have n1_ := Aside0.mk (below_drew1 HB.out)
     clear BK489
     clear HB
     have BK489 := n0_
     have HB := n1_
     clear n0_ n1_
     have p490 : 0 ≤ ((ji5) : Int) := od_
     have q490 : (ji5) < (l0.length : Int) := od_
     obtain ⟨ad490, e490, hx490_0, hx490_1, hx490_2⟩ := at_T75 HR0.out (ji5) p490 q490
     have hw490_2 := hx490_2
     have hw490_1 := hx490_1
     have hw490_0 := hx490_0
     cases e490
     replace hx490_0 := (HB.out.cell (World.block_lt_of_cell? w _ hx490_0)).trans hx490_0
     replace hx490_1 := (HB.out.cell (World.block_lt_of_cell? w _ hx490_1)).trans hx490_1
     replace hx490_2 := (HB.out.cell (World.block_lt_of_cell? w _ hx490_2)).trans hx490_2
     replace p490 := eq_true p490
     replace q490 := eq_true q490
     refine start_ (n := 11) (S := fun w' => w'.cell? ⟨gb489, 0, none⟩ = some (.int .i64 a1_0) ∧ w'.cell? ⟨gb489, 1, none⟩ = some (.int .i64 a1_1) ∧ w'.cell? ⟨gb489, 2, none⟩ = some (.int .i64 a1_2) ∧ w'.cell? (ad490.add (((ji5)).toNat * 3)) = some (.int .i64 ((rd_T75 l0 (ji5)).f0)) ∧ w'.cell? ⟨(ad490.add (((ji5)).toNat * 3)).block, (ad490.add (((ji5)).toNat * 3)).off + 1, none⟩ = some (.int .i64 ((rd_T75 l0 (ji5)).f1)) ∧ w'.cell? ⟨(ad490.add (((ji5)).toNat * 3)).block, (ad490.add (((ji5)).toNat * 3)).off + 2, none⟩ = some (.int .i64 ((rd_T75 l0 (ji5)).f2))) (ds := []) (nb_ 11 0) (by kernel_rfl) rfl rfl ⟨(blk_cell BK489.out 0).trans rfl, (blk_cell BK489.out 1).trans rfl, (blk_cell BK489.out 2).trans rfl, ((HB.out.cell (World.block_lt_of_cell? w _ hw490_0)).trans hw490_0), ((HB.out.cell (World.block_lt_of_cell? w _ hw490_1)).trans hw490_1), ((HB.out.cell (World.block_lt_of_cell? w _ hw490_2)).trans hw490_2)⟩ (fun hHeld => ?_); refine with_tabW spec_l30Put.tab2 spec_l30Put.bits2 (fun HT_ HW_ => ?_)
     generalize wr.drew = w19 at BK489 HB hx490_0 hx490_1 hx490_2 hHeld ⊢
     refine puz_ 0 (some 9) (nb_ 11 1) rfl rfl (any_of HT_.out (by kernel_rfl)) ?_
     refine puz_ 1 (some 10) (nb_ 11 3) rfl rfl (any_of HT_.out (by kernel_rfl)) ?_
     refine puz_ 2 (some 11) (nb_ 11 7) rfl rfl (any_of HT_.out (by kernel_rfl)) ?_
     refine puz_ 4 (some 13) (nb_ 11 23) rfl rfl (any_of HT_.out (by kernel_rfl)) ?_
     refine puz_ 5 (some 14) (nb_ 11 55) rfl rfl (any_of HT_.out (by kernel_rfl)) ?_
     refine puz_ 6 (some 15) (nb_ 11 119) rfl rfl (any_of HT_.out (by kernel_rfl)) ?_
     refine puz_ 7 (some 16) (nb_ 11 247) rfl rfl (any_of HT_.out (by kernel_rfl)) ?_
     refine tkz_ 3 (some 12) (nb_ 11 255) rfl rfl (take_ofW HT_.out HW_.out (by kernel_rfl)) hHeld ?_
     refine tkz_ 8 (some 17) (nb_ 11 511) rfl rfl (take_ofW HT_.out HW_.out (by kernel_rfl)) hHeld ?_
     refine one_ (i := 9) (N := some 18) (nb_ 11 1023) rfl rfl (one_of HT_.out (by kernel_rfl)) (by decide) (fun K hK => ?_)
     refine goes_ Try.func49 (by kernel_rfl) rfl #[.agg #[.int .i64 a1_0, .int .i64 a1_1, .int .i64 a1_2], .agg #[.int .i64 ((rd_T75 l0 (ji5)).f0), .int .i64 ((rd_T75 l0 (ji5)).f1), .int .i64 ((rd_T75 l0 (ji5)).f2)]] (by rfl) rfl rfl (by (try simp only [List.map_toArray, List.map_cons, List.map_nil]); first | done | (simp only [hji5]; rfl) | rfl | (simp only [List.length_drop, List.length_take]; rfl)) ?_
     with_reducible refine (spec_l30Less.calls a1_0 a1_1 a1_2 ((rd_T75 l0 (ji5)).f0) ((rd_T75 l0 (ji5)).f1) ((rd_T75 l0 (ji5)).f2) false _ A8.out).mono ?_
     rintro e w20 ⟨rfl, hb⟩
     refine ⟨_, rfl, ?_⟩
     have n0_ := Aside0.mk (blk_below (g := gb489) (o := .cells #[.int .i64 a1_0, .int .i64 a1_1, .int .i64 a1_2] 75 (0, 0)) (bk_ BK489.out) hb)
     have n1_ := Aside0.mk (below_step (bl1_ HB.out GE489.out) hb)
     clear BK489
     clear HB
     have BK489 := n0_
     have HB := n1_
     clear n0_ n1_
     (try clear hb)
     (try clear hb2)
     (try clear hk)
     (try clear hi)
     refine hK.out _ _ ⟨(blk_cell BK489.out 0).trans rfl, (blk_cell BK489.out 1).trans rfl, (blk_cell BK489.out 2).trans rfl, ((HB.out.cell (World.block_lt_of_cell? w _ hw490_0)).trans hw490_0), ((HB.out.cell (World.block_lt_of_cell? w _ hw490_1)).trans hw490_1), ((HB.out.cell (World.block_lt_of_cell? w _ hw490_2)).trans hw490_2)⟩ (fun hHeld => ?_)
     clear hK K
     refine norm_ (a' := ?_) ?_ ?_
     rotate_left
     ·show Act.put _ (some 18) _ = _
      simp only [Act.put, List.setIfInBounds_toArray, List.set_cons_zero, List.set_cons_succ, i64_w, i32_w]
      rfl
     refine puz_ 10 (some 19) (nb_ 11 2047) rfl rfl (any_of HT_.out (by kernel_rfl)) ?_
     refine done_ (done_of HT_.out (by kernel_rfl)) ?_
     try go_wp2_with (first | ((with_reducible refine gate_dst (N := 22) rfl ?_); refine Kd.R_lit k75 _ 75 ?hg (N := 22) ?hd (xs := ([] : List (S75))) (inner := []) (ok := fun _ => True) (okp := fun _ => True) ?hr ?hp (fun _ hk => hk) trivial (Below.refl _ _) (Nat.le_refl _) (by simp) ?_; (case hd => rfl); (case hg => rfl); (case hr => first | (go_simp; done) | (go_simp; rfl)); (case hp => exact (Reps.none _ _)); intro v493 w21 ho22 hb hg_ hnew_; clear hg_ hnew_; (first | rw [← Ny492.out] at ho22 | (simp only [Int.reduceToNat] at ho22; rw [← Ny492.out] at ho22)); have n0_ := Aside0.mk (Kd.R_lower (Kd.R_newB ho22 (g := gb489) (o := .cells #[.int .i64 a1_0, .int .i64 a1_1, .int .i64 a1_2] 75 (0, 0)) (bk_ BK489.out)) (below_size (bl1_ HB.out GE489.out))); have n1_ := Aside0.mk (blk_below (g := gb489) (o := .cells #[.int .i64 a1_0, .int .i64 a1_1, .int .i64 a1_2] 75 (0, 0)) (bk_ BK489.out) hb); have n2_ := Aside0.mk (below_step (bl1_ HB.out GE489.out) hb); clear BK489; clear HB; have HO494 := n0_; have BK489 := n1_; have HB := n2_; clear n0_ n1_ n2_; clear hb ho22; have q23 : (x5_1 : Int) ≤ ((l0.length : Int) : Int) := od_; obtain ⟨i023, hi023, _, hsz23, _⟩ := info_parts info75; have hroom23 : l0.length ≤ c0 := HC0.out; have hC23 : Kd.C k75 _ (some ad490) l0.length l0 := HR0.out; have hcut23 := cut_to (P := Try.prog) 24 75 .i64 Try.underlying24 hi023 (some ad490) l0.length c0 x5_1 (od_) q23 hroom23; have hr23 := Kd.C_take (m := (x5_1 : Int).toNat) hC23 (by omega); have hy23 : y495.length = (x5_1 : Int).toNat := (by rw [Ny495.out, List.length_take]; omega); rw [← Ny495.out] at hr23; rw [← hy23] at hcut23; have HR498 := Aside0.mk hr23; have HC498 := Aside0.mk (show y495.length ≤ c0 from by omega); clear hr23 hC23 hroom23 hi023 hsz23; have KY23 := Aside0.mk hy23; clear hy23; replace q23 := eq_true q23) | ((with_reducible refine gate_builtin (b := .append) (xs := #[.tmp 22, .tmp 25]) rfl ?_); at_builtin; refine Kd.R_append_rows k75 (w0 := w) w.heap.size rfl (.tmp 22) (.tmp 25) 24 75 (.agg #[(.int .i64 0), (.int .i64 0), (.int .i64 0)]) 24 rfl Try.underlying24 info75 rfl (by decide) (by omega) v493 y492 y495 _ _ _ (fun k_ => k_ ≠ gb489) (fun _ => False) rfl rfl ?aO ?aR (fun _ _ h => h) (fun _ h => h.elim) ?aF ?aB ?aS ?aL ?_; (case aR => repeat (first | exact (Kd.C_below HR498.out HB.out) | (with_reducible refine Kd.C_alloc ?_ _) | (with_reducible refine Kd.C_drewN ?_ _) | (with_reducible refine Kd.C_drew ?_))); (case aB => exact (bl1_ HB.out GE489.out)); (case aF => exact (fun k_ hk => Kd.freshB (g := gb489) (o := .cells #[.int .i64 a1_0, .int .i64 a1_1, .int .i64 a1_2] 75 (0, 0)) (bk_ BK489.out) k_ hk)); (case aO => exact (by (with_reducible repeat (first | apply Kd.R_alloc | apply Kd.R_drewN | apply Kd.R_drew)); exact Kd.R_mono HO494.out (fun _ hk => hk.2))); (case aS => exact (below_size (bl1_ HB.out GE489.out))); (case aL => have := LMc14.out; omega); intro v500 w24 ho hb hg hat; rw [← Ny499.out] at ho; have n0_ := Aside0.mk (blk_grown (g := gb489) (o := .cells #[.int .i64 a1_0, .int .i64 a1_1, .int .i64 a1_2] 75 (0, 0)) (bk_ BK489.out) hg (Kd.R_away HO494.out (fun _ hk => hk.2))); have n1_ := Aside0.mk (hb); have n2_ := Aside0.mk (ho); clear BK489; clear HB; clear HO494; have BK489 := n0_; have HB := n1_; have HO501 := n2_; clear n0_ n1_ n2_; clear ho hb hg hat; obtain ⟨hcz25_0, hcz25_1, hcz25_2, hfz25_0, hfz25_1, hfz25_2⟩ := cz3_ BK489.out) | ((with_reducible refine gate_builtin (b := .append) (xs := #[.tmp 27, .tmp 29]) rfl ?_); at_builtin; refine Kd.R_append k75 (w0 := w) w.heap.size rfl (.tmp 27) (.tmp 29) 24 75 (.agg #[(.int .i64 0), (.int .i64 0), (.int .i64 0)]) 24 rfl Try.underlying24 info75 rfl (by decide) (by omega) v500 y499 (⟨a1_0, a1_1, a1_2⟩ : S75) [.int .i64 a1_0, .int .i64 a1_1, .int .i64 a1_2] (fun k_ => k_ ≠ gb489) (fun _ => False) rfl rfl ?aP (fun _ hk => hk.elim) ?aF ?aO ?aB ?aS ?aL ?_; (case aP => exact k75_mkM _ _ _ (⟨a1_0, a1_1, a1_2⟩ : S75)); (case aB => exact (bl1_ HB.out GE489.out)); (case aF => exact (fun k_ hk => Kd.freshB (g := gb489) (o := .cells #[.int .i64 a1_0, .int .i64 a1_1, .int .i64 a1_2] 75 (0, 0)) (bk_ BK489.out) k_ hk)); (case aO => exact (ra_ HO501.out)); (case aS => exact (below_size (bl1_ HB.out GE489.out))); (case aL => have := LMc15.out; omega); intro v503 w26 ho hb hg hat; rw [← Ny502.out] at ho; have n0_ := Aside0.mk (blk_grown (g := gb489) (o := .cells #[.int .i64 a1_0, .int .i64 a1_1, .int .i64 a1_2] 75 (0, 0)) (bk_ BK489.out) hg (Kd.R_away HO501.out (fun _ hk => hk))); have n1_ := Aside0.mk (hb); have n2_ := Aside0.mk (ho); clear BK489; clear HB; clear HO501; have BK489 := n0_; have HB := n1_; have HO504 := n2_; clear n0_ n1_ n2_; clear ho hb hg hat; have q27 : (x5_1 : Int) ≤ ((l0.length : Int) : Int) := od_; obtain ⟨i027, hi027, _, hsz27, _⟩ := info_parts info75; have hroom27 : l0.length ≤ c0 := HC0.out; have hC27 : Kd.C k75 _ (some ad490) l0.length l0 := HR0.out; have q027 : (0 : Int) ≤ (x5_1 : Int) := od_; have hcut27 := cut_from (P := Try.prog) 24 75 .i64 Try.underlying24 hi027 3 hsz27 (some ad490) l0.length c0 x5_1 q027 q27; have hr27 := Kd.C_drop (m := (x5_1 : Int).toNat) (c := c0) hC27 (by omega) hroom27; obtain ⟨A27, hA27⟩ : ∃ A1, A1 = (if c0 = (x5_1 : Int).toNat then (some ad490) else ((some ad490) : Option Addr).map (·.add ((x5_1 : Int).toNat * 3))) := ⟨_, rfl⟩; obtain ⟨c27, hc27⟩ : ∃ c1, c1 = c0 - (x5_1 : Int).toNat := ⟨_, rfl⟩; have hy27 : y505.length = l0.length - (x5_1 : Int).toNat := (by rw [Ny505.out, List.length_drop] <;> omega); rw [show (l0).drop (x5_1 : Int).toNat = y505 from Ny505.out.symm] at hr27; replace hr27 : Kd.C k75 _ A27 y505.length y505 := (by rw [hA27]; exact hr27); rw [← hy27, ← hA27, ← hc27] at hcut27; have HR508 := Aside0.mk hr27; have HC508 := Aside0.mk (show y505.length ≤ c27 from by rw [hy27, hc27]; exact Nat.sub_le_sub_right hroom27 _); clear hr27 hC27 hroom27 hi027 hsz27 hc27; have KY27 := Aside0.mk hy27; have KA27 := Aside0.mk hA27; clear hy27 hA27; replace q27 := eq_true q27) | ((with_reducible refine gate_builtin (b := .append) (xs := #[.tmp 31, .tmp 34]) rfl ?_); at_builtin; refine Kd.R_append_rows k75 (w0 := w) w.heap.size rfl (.tmp 31) (.tmp 34) 24 75 (.agg #[(.int .i64 0), (.int .i64 0), (.int .i64 0)]) 24 rfl Try.underlying24 info75 rfl (by decide) (by omega) v503 y502 y505 _ _ _ (fun k_ => k_ ≠ gb489) (fun _ => False) rfl rfl ?aO ?aR (fun _ _ h => h) (fun _ h => h.elim) ?aF ?aB ?aS ?aL ?_; (case aR => repeat (first | exact (Kd.C_below HR508.out HB.out) | (with_reducible refine Kd.C_alloc ?_ _) | (with_reducible refine Kd.C_drewN ?_ _) | (with_reducible refine Kd.C_drew ?_))); (case aB => exact (bl1_ HB.out GE489.out)); (case aF => exact (fun k_ hk => Kd.freshB (g := gb489) (o := .cells #[.int .i64 a1_0, .int .i64 a1_1, .int .i64 a1_2] 75 (0, 0)) (bk_ BK489.out) k_ hk)); (case aO => exact (ra_ HO504.out)); (case aS => exact (below_size (bl1_ HB.out GE489.out))); (case aL => have := LMc18.out; omega); intro v510 w28 ho hb hg hat; rw [← Ny509.out] at ho; have n0_ := Aside0.mk (blk_grown (g := gb489) (o := .cells #[.int .i64 a1_0, .int .i64 a1_1, .int .i64 a1_2] 75 (0, 0)) (bk_ BK489.out) hg (Kd.R_away HO504.out (fun _ hk => hk))); have n1_ := Aside0.mk (hb); have n2_ := Aside0.mk (ho); clear BK489; clear HB; clear HO504; have BK489 := n0_; have HB := n1_; have HO511 := n2_; clear n0_ n1_ n2_; clear ho hb hg hat))
     go_ret
     exact ⟨_, by first | rfl | (simp [errW_none, errW_some] <;> rfl) | (simp only [← hji5]; first | rfl | (simp [errW_none, errW_some] <;> rfl)) | (simp [*, errW_none, errW_some] <;> rfl), by (with_reducible repeat (first | apply Kd.R_alloc | apply Kd.R_drewN | apply Kd.R_drew)); exact Kd.R_mono HO511.out (fun _ hk => trivial), bl1_ HB.out GE489.out⟩
   ·rw [if_neg c4] at H
    have c4b0 : decide (0 < x5_1) = false := decide_eq_false c4
    clear c4
    obtain ⟨y512, hy512⟩ : ∃ y_ : List (S75), y_ = (([] : List (S75))) := ⟨_, rfl⟩
    replace H : (if 0 ≤ x5_1 then (if x5_1 ≤ (l0.length : Int) then ((some (l0.take (x5_1 : Int).toNat : List (S75))).bind fun y515 => (if y512.length + y515.length < 5864062014805 then ((some (y512 ++ y515 : List (S75))).bind fun y519 => (if y519.length < 5864062014805 then ((some (y519 ++ [(⟨a1_0, a1_1, a1_2⟩ : S75)] : List (S75))).bind fun y522 => ((some (l0.drop (x5_1 : Int).toNat : List (S75))).bind fun y525 => (if y522.length + y525.length < 5864062014805 then (some (y522 ++ y525)) else (none)))) else (none))) else (none))) else (none)) else (none)) = some r := yh_ H hy512
    have Ny512 := Aside0.mk hy512
    clear hy512
    by_cases c29 : 0 ≤ x5_1
    rotate_left
    ·exact nope_ c29 H
    rw [if_pos c29] at H
    have c29b0 := eq_true c29
    have c29b1 := decide_eq_true c29
    clear c29
    by_cases c30 : x5_1 ≤ (l0.length : Int)
    rotate_left
    ·exact nope_ c30 H
    rw [if_pos c30] at H
    have c30b0 := eq_true c30
    have c30b1 := decide_eq_true c30
    clear c30
    obtain ⟨y515, hy515⟩ : ∃ y_ : List (S75), y_ = (l0.take (x5_1 : Int).toNat) := ⟨_, rfl⟩
    replace H : (if y512.length + y515.length < 5864062014805 then ((some (y512 ++ y515 : List (S75))).bind fun y519 => (if y519.length < 5864062014805 then ((some (y519 ++ [(⟨a1_0, a1_1, a1_2⟩ : S75)] : List (S75))).bind fun y522 => ((some (l0.drop (x5_1 : Int).toNat : List (S75))).bind fun y525 => (if y522.length + y525.length < 5864062014805 then (some (y522 ++ y525)) else (none)))) else (none))) else (none)) = some r := yh_ H hy515
    have Ny515 := Aside0.mk hy515
    clear hy515
    by_cases c31 : y512.length + y515.length < 5864062014805
    rotate_left
    ·exact nope_ c31 H
    rw [if_pos c31] at H
    have LMc31 := Aside0.mk c31
    clear c31
    obtain ⟨y519, hy519⟩ : ∃ y_ : List (S75), y_ = (y512 ++ y515) := ⟨_, rfl⟩
    replace H : (if y519.length < 5864062014805 then ((some (y519 ++ [(⟨a1_0, a1_1, a1_2⟩ : S75)] : List (S75))).bind fun y522 => ((some (l0.drop (x5_1 : Int).toNat : List (S75))).bind fun y525 => (if y522.length + y525.length < 5864062014805 then (some (y522 ++ y525)) else (none)))) else (none)) = some r := yh_ H hy519
    have Ny519 := Aside0.mk hy519
    clear hy519
    by_cases c32 : y519.length < 5864062014805
    rotate_left
    ·exact nope_ c32 H
    rw [if_pos c32] at H
    have LMc32 := Aside0.mk c32
    clear c32
    obtain ⟨y522, hy522⟩ : ∃ y_ : List (S75), y_ = (y519 ++ [(⟨a1_0, a1_1, a1_2⟩ : S75)]) := ⟨_, rfl⟩
    replace H : ((some (l0.drop (x5_1 : Int).toNat : List (S75))).bind fun y525 => (if y522.length + y525.length < 5864062014805 then (some (y522 ++ y525)) else (none))) = some r := yh_ H hy522
    have Ny522 := Aside0.mk hy522
    clear hy522
    have c33b0 := eq_true (od_ : 0 ≤ x5_1)
    have c34b0 := eq_true (od_ : x5_1 ≤ (l0.length : Int))
    obtain ⟨y525, hy525⟩ : ∃ y_ : List (S75), y_ = (l0.drop (x5_1 : Int).toNat) := ⟨_, rfl⟩
    replace H : (if y522.length + y525.length < 5864062014805 then (some (y522 ++ y525)) else (none)) = some r := yh_ H hy525
    have Ny525 := Aside0.mk hy525
    clear hy525
    by_cases c35 : y522.length + y525.length < 5864062014805
    rotate_left
    ·exact nope_ c35 H
    rw [if_pos c35] at H
    have LMc35 := Aside0.mk c35
    clear c35
    obtain ⟨y529, hy529⟩ : ∃ y_ : List (S75), y_ = (y522 ++ y525) := ⟨_, rfl⟩
    replace H : (some y529) = some r := yh_ H hy529
    have Ny529 := Aside0.mk hy529
    clear hy529
    obtain rfl := Option.some.inj H
    try go_wp2
    have n0_ := Aside0.mk (blk_drew BK489.out)
    have n1_ := Aside0.mk (below_drew1 HB.out)
    clear BK489
    clear HB
    have BK489 := n0_
    have HB := n1_
    clear n0_ n1_
    refine start_ (n := 11) (S := fun w' => True) (ds := []) (nb_ 11 0) (by kernel_rfl) rfl rfl trivial (fun hHeld => ?_); refine with_tabW spec_l30Put.tab2 spec_l30Put.bits2 (fun HT_ HW_ => ?_)
    generalize wr.drew = w36 at BK489 HB hHeld ⊢
    refine puz_ 0 (some 9) (nb_ 11 1) rfl rfl (any_of HT_.out (by kernel_rfl)) ?_
    refine puz_ 1 (some 10) (nb_ 11 3) rfl rfl (any_of HT_.out (by kernel_rfl)) ?_
    refine puz_ 2 (some 11) (nb_ 11 7) rfl rfl (any_of HT_.out (by kernel_rfl)) ?_
    refine puu_ 3 (some 12) (nb_ 11 15) rfl rfl (any_of HT_.out (by kernel_rfl)) ?_
    refine puu_ 4 (some 13) (nb_ 11 31) rfl rfl (any_of HT_.out (by kernel_rfl)) ?_
    refine puu_ 5 (some 14) (nb_ 11 63) rfl rfl (any_of HT_.out (by kernel_rfl)) ?_
    refine puu_ 6 (some 15) (nb_ 11 127) rfl rfl (any_of HT_.out (by kernel_rfl)) ?_
    refine puu_ 7 (some 16) (nb_ 11 255) rfl rfl (any_of HT_.out (by kernel_rfl)) ?_
    refine puu_ 8 (some 17) (nb_ 11 511) rfl rfl (any_of HT_.out (by kernel_rfl)) ?_
    refine puu_ 9 (some 18) (nb_ 11 1023) rfl rfl (any_of HT_.out (by kernel_rfl)) ?_
    refine puz_ 10 (some 19) (nb_ 11 2047) rfl rfl (any_of HT_.out (by kernel_rfl)) ?_
    refine done_ (done_of HT_.out (by kernel_rfl)) ?_
    try go_wp2_with (first | ((with_reducible refine gate_dst (N := 22) rfl ?_); refine Kd.R_lit k75 _ 75 ?hg (N := 22) ?hd (xs := ([] : List (S75))) (inner := []) (ok := fun _ => True) (okp := fun _ => True) ?hr ?hp (fun _ hk => hk) trivial (Below.refl _ _) (Nat.le_refl _) (by simp) ?_; (case hd => rfl); (case hg => rfl); (case hr => first | (go_simp; done) | (go_simp; rfl)); (case hp => exact (Reps.none _ _)); intro v513 w37 ho38 hb hg_ hnew_; clear hg_ hnew_; (first | rw [← Ny512.out] at ho38 | (simp only [Int.reduceToNat] at ho38; rw [← Ny512.out] at ho38)); have n0_ := Aside0.mk (Kd.R_lower (Kd.R_newB ho38 (g := gb489) (o := .cells #[.int .i64 a1_0, .int .i64 a1_1, .int .i64 a1_2] 75 (0, 0)) (bk_ BK489.out)) (below_size (bl1_ HB.out GE489.out))); have n1_ := Aside0.mk (blk_below (g := gb489) (o := .cells #[.int .i64 a1_0, .int .i64 a1_1, .int .i64 a1_2] 75 (0, 0)) (bk_ BK489.out) hb); have n2_ := Aside0.mk (below_step (bl1_ HB.out GE489.out) hb); clear BK489; clear HB; have HO514 := n0_; have BK489 := n1_; have HB := n2_; clear n0_ n1_ n2_; clear hb ho38; have q39 : (x5_1 : Int) ≤ ((l0.length : Int) : Int) := od_; obtain ⟨i039, hi039, _, hsz39, _⟩ := info_parts info75; have hroom39 : l0.length ≤ c0 := HC0.out; have hC39 : Kd.C k75 _ A0 l0.length l0 := HR0.out; have hcut39 := cut_to (P := Try.prog) 24 75 .i64 Try.underlying24 hi039 A0 l0.length c0 x5_1 (od_) q39 hroom39; have hr39 := Kd.C_take (m := (x5_1 : Int).toNat) hC39 (by omega); have hy39 : y515.length = (x5_1 : Int).toNat := (by rw [Ny515.out, List.length_take]; omega); rw [← Ny515.out] at hr39; rw [← hy39] at hcut39; have HR518 := Aside0.mk hr39; have HC518 := Aside0.mk (show y515.length ≤ c0 from by omega); clear hr39 hC39 hroom39 hi039 hsz39; have KY39 := Aside0.mk hy39; clear hy39; replace q39 := eq_true q39) | ((with_reducible refine gate_builtin (b := .append) (xs := #[.tmp 22, .tmp 25]) rfl ?_); at_builtin; refine Kd.R_append_rows k75 (w0 := w) w.heap.size rfl (.tmp 22) (.tmp 25) 24 75 (.agg #[(.int .i64 0), (.int .i64 0), (.int .i64 0)]) 24 rfl Try.underlying24 info75 rfl (by decide) (by omega) v513 y512 y515 _ _ _ (fun k_ => k_ ≠ gb489) (fun _ => False) rfl rfl ?aO ?aR (fun _ _ h => h) (fun _ h => h.elim) ?aF ?aB ?aS ?aL ?_; (case aR => repeat (first | exact (Kd.C_below HR518.out HB.out) | (with_reducible refine Kd.C_alloc ?_ _) | (with_reducible refine Kd.C_drewN ?_ _) | (with_reducible refine Kd.C_drew ?_))); (case aB => exact (bl1_ HB.out GE489.out)); (case aF => exact (fun k_ hk => Kd.freshB (g := gb489) (o := .cells #[.int .i64 a1_0, .int .i64 a1_1, .int .i64 a1_2] 75 (0, 0)) (bk_ BK489.out) k_ hk)); (case aO => exact (by (with_reducible repeat (first | apply Kd.R_alloc | apply Kd.R_drewN | apply Kd.R_drew)); exact Kd.R_mono HO514.out (fun _ hk => hk.2))); (case aS => exact (below_size (bl1_ HB.out GE489.out))); (case aL => have := LMc31.out; omega); intro v520 w40 ho hb hg hat; rw [← Ny519.out] at ho; have n0_ := Aside0.mk (blk_grown (g := gb489) (o := .cells #[.int .i64 a1_0, .int .i64 a1_1, .int .i64 a1_2] 75 (0, 0)) (bk_ BK489.out) hg (Kd.R_away HO514.out (fun _ hk => hk.2))); have n1_ := Aside0.mk (hb); have n2_ := Aside0.mk (ho); clear BK489; clear HB; clear HO514; have BK489 := n0_; have HB := n1_; have HO521 := n2_; clear n0_ n1_ n2_; clear ho hb hg hat; obtain ⟨hcz41_0, hcz41_1, hcz41_2, hfz41_0, hfz41_1, hfz41_2⟩ := cz3_ BK489.out) | ((with_reducible refine gate_builtin (b := .append) (xs := #[.tmp 27, .tmp 29]) rfl ?_); at_builtin; refine Kd.R_append k75 (w0 := w) w.heap.size rfl (.tmp 27) (.tmp 29) 24 75 (.agg #[(.int .i64 0), (.int .i64 0), (.int .i64 0)]) 24 rfl Try.underlying24 info75 rfl (by decide) (by omega) v520 y519 (⟨a1_0, a1_1, a1_2⟩ : S75) [.int .i64 a1_0, .int .i64 a1_1, .int .i64 a1_2] (fun k_ => k_ ≠ gb489) (fun _ => False) rfl rfl ?aP (fun _ hk => hk.elim) ?aF ?aO ?aB ?aS ?aL ?_; (case aP => exact k75_mkM _ _ _ (⟨a1_0, a1_1, a1_2⟩ : S75)); (case aB => exact (bl1_ HB.out GE489.out)); (case aF => exact (fun k_ hk => Kd.freshB (g := gb489) (o := .cells #[.int .i64 a1_0, .int .i64 a1_1, .int .i64 a1_2] 75 (0, 0)) (bk_ BK489.out) k_ hk)); (case aO => exact (ra_ HO521.out)); (case aS => exact (below_size (bl1_ HB.out GE489.out))); (case aL => have := LMc32.out; omega); intro v523 w42 ho hb hg hat; rw [← Ny522.out] at ho; have n0_ := Aside0.mk (blk_grown (g := gb489) (o := .cells #[.int .i64 a1_0, .int .i64 a1_1, .int .i64 a1_2] 75 (0, 0)) (bk_ BK489.out) hg (Kd.R_away HO521.out (fun _ hk => hk))); have n1_ := Aside0.mk (hb); have n2_ := Aside0.mk (ho); clear BK489; clear HB; clear HO521; have BK489 := n0_; have HB := n1_; have HO524 := n2_; clear n0_ n1_ n2_; clear ho hb hg hat; have q43 : (x5_1 : Int) ≤ ((l0.length : Int) : Int) := od_; obtain ⟨i043, hi043, _, hsz43, _⟩ := info_parts info75; have hroom43 : l0.length ≤ c0 := HC0.out; have hC43 : Kd.C k75 _ A0 l0.length l0 := HR0.out; have q043 : (0 : Int) ≤ (x5_1 : Int) := od_; have hcut43 := cut_from (P := Try.prog) 24 75 .i64 Try.underlying24 hi043 3 hsz43 A0 l0.length c0 x5_1 q043 q43; have hr43 := Kd.C_drop (m := (x5_1 : Int).toNat) (c := c0) hC43 (by omega) hroom43; obtain ⟨A43, hA43⟩ : ∃ A1, A1 = (if c0 = (x5_1 : Int).toNat then A0 else (A0 : Option Addr).map (·.add ((x5_1 : Int).toNat * 3))) := ⟨_, rfl⟩; obtain ⟨c43, hc43⟩ : ∃ c1, c1 = c0 - (x5_1 : Int).toNat := ⟨_, rfl⟩; have hy43 : y525.length = l0.length - (x5_1 : Int).toNat := (by rw [Ny525.out, List.length_drop] <;> omega); rw [show (l0).drop (x5_1 : Int).toNat = y525 from Ny525.out.symm] at hr43; replace hr43 : Kd.C k75 _ A43 y525.length y525 := (by rw [hA43]; exact hr43); rw [← hy43, ← hA43, ← hc43] at hcut43; have HR528 := Aside0.mk hr43; have HC528 := Aside0.mk (show y525.length ≤ c43 from by rw [hy43, hc43]; exact Nat.sub_le_sub_right hroom43 _); clear hr43 hC43 hroom43 hi043 hsz43 hc43; have KY43 := Aside0.mk hy43; have KA43 := Aside0.mk hA43; clear hy43 hA43; replace q43 := eq_true q43) | ((with_reducible refine gate_builtin (b := .append) (xs := #[.tmp 31, .tmp 34]) rfl ?_); at_builtin; refine Kd.R_append_rows k75 (w0 := w) w.heap.size rfl (.tmp 31) (.tmp 34) 24 75 (.agg #[(.int .i64 0), (.int .i64 0), (.int .i64 0)]) 24 rfl Try.underlying24 info75 rfl (by decide) (by omega) v523 y522 y525 _ _ _ (fun k_ => k_ ≠ gb489) (fun _ => False) rfl rfl ?aO ?aR (fun _ _ h => h) (fun _ h => h.elim) ?aF ?aB ?aS ?aL ?_; (case aR => repeat (first | exact (Kd.C_below HR528.out HB.out) | (with_reducible refine Kd.C_alloc ?_ _) | (with_reducible refine Kd.C_drewN ?_ _) | (with_reducible refine Kd.C_drew ?_))); (case aB => exact (bl1_ HB.out GE489.out)); (case aF => exact (fun k_ hk => Kd.freshB (g := gb489) (o := .cells #[.int .i64 a1_0, .int .i64 a1_1, .int .i64 a1_2] 75 (0, 0)) (bk_ BK489.out) k_ hk)); (case aO => exact (ra_ HO524.out)); (case aS => exact (below_size (bl1_ HB.out GE489.out))); (case aL => have := LMc35.out; omega); intro v530 w44 ho hb hg hat; rw [← Ny529.out] at ho; have n0_ := Aside0.mk (blk_grown (g := gb489) (o := .cells #[.int .i64 a1_0, .int .i64 a1_1, .int .i64 a1_2] 75 (0, 0)) (bk_ BK489.out) hg (Kd.R_away HO524.out (fun _ hk => hk))); have n1_ := Aside0.mk (hb); have n2_ := Aside0.mk (ho); clear BK489; clear HB; clear HO524; have BK489 := n0_; have HB := n1_; have HO531 := n2_; clear n0_ n1_ n2_; clear ho hb hg hat))
    go_ret
    exact ⟨_, re_, by (with_reducible repeat (first | apply Kd.R_alloc | apply Kd.R_drewN | apply Kd.R_drew)); exact Kd.R_mono HO531.out (fun _ hk => trivial), bl1_ HB.out GE489.out⟩

/-! ### spec_l30Draw: function 22 -/
def spec_l30Draw.l0 : Nat → Int → Int → List Int → Int → Int → Int → List (S75) → Option (Int × (List (S75)) × Int × Int)
 | 0, _, _, _, _, _, _, _ => none
 | k + 1, x2, x8, x1000, x1001, x1002, x537000, x537001 => if x8 < x537000 then ((spec_l00Src_pick.f x1000 x1001 x1002 x8).bind fun bt537 => ((spec_l00Src_pick.f x1000 bt537.2.1 bt537.2.2 x2).bind fun bt540 => ((spec_l30Put.f k x537001 bt537.1 x8 (wrap64 (1 + bt540.1))).bind fun t543 => (spec_l30Draw.l0 k x2 (wrap64 (x8 + 1)) x1000 bt540.2.1 bt540.2.2 x537000 t543)))) else (some (x537000, x537001, x1001, x1002))
def spec_l30Draw.f (k : Nat) (s0_0 : List Int) (s0_1 : Int) (s0_2 : Int) (a1 : Int) (a2 : Int) : Option (Int × (List (S75)) × Int × Int) := (spec_l00Src_pick.f s0_0 s0_1 s0_2 (wrap64 (a1 - 1))).bind fun bt533 => (spec_l30Draw.l0 k a2 1 s0_0 bt533.2.1 bt533.2.2 (wrap64 (2 + bt533.1)) ([] : List (S75)))
theorem spec_l30Draw.mono_l : ∀ k, (∀ y0 y1 y2 y3 y4 y5 y6, LeO (spec_l30Draw.l0 k y0 y1 y2 y3 y4 y5 y6) (spec_l30Draw.l0 (k + 1) y0 y1 y2 y3 y4 y5 y6))
 | 0 => fun _ _ _ _ _ _ _ r h => by simp [spec_l30Draw.l0] at h
 | k + 1 => by
  have ih0 := spec_l30Draw.mono_l k
  ·intro y0 y1 y2 y3 y4 y5 y6
   unfold spec_l30Draw.l0
   repeat' first
   | (with_reducible exact ih0 _ _ _ _ _ _ _)
   | (with_reducible exact spec_l30Put.mono _ _ _ _ _)
   | (with_reducible exact LeO.refl _)
   | (with_reducible exact LeO.none _)
   | (with_reducible refine LeO.ite ?_ ?_)
   | (with_reducible refine LeO.bind ?_ (fun _ => ?_))
   | exact spec_l30Put.mono _ _ _ _ _
   | exact LeO.none _
   | refine LeO.ite ?_ ?_
   | refine LeO.bind ?_ (fun _ => ?_)
theorem spec_l30Draw.mono : ∀ a0 a1 a2 a3 a4 k, LeO (spec_l30Draw.f k a0 a1 a2 a3 a4) (spec_l30Draw.f (k + 1) a0 a1 a2 a3 a4) := by
 intro a0 a1 a2 a3 a4 k
 have ih0 := spec_l30Draw.mono_l k
 unfold spec_l30Draw.f
 repeat' first
   | (with_reducible exact ih0 _ _ _ _ _ _ _)
   | (with_reducible exact spec_l30Put.mono _ _ _ _ _)
   | (with_reducible exact LeO.refl _)
   | (with_reducible exact LeO.none _)
   | (with_reducible refine LeO.ite ?_ ?_)
   | (with_reducible refine LeO.bind ?_ (fun _ => ?_))
   | exact spec_l30Put.mono _ _ _ _ _
   | exact LeO.none _
   | refine LeO.ite ?_ ?_
   | refine LeO.bind ?_ (fun _ => ?_)
set_option maxHeartbeats 8000000 in
set_option maxRecDepth 100000 in
theorem spec_l30Draw.calls (k : Nat) (g : Nat) (s0_0 : List Int) (s0_1 : Int) (s0_2 : Int) (a1 : Int) (a2 : Int) (r1 : Int) (r2 : List (S75)) (r3 : Int) (r4 : Int) (w0 w : World) (hI : IsS78 w0 w g s0_0 s0_1 s0_2) (hB : Below w0.heap.size w0 w) (h : spec_l30Draw.f k s0_0 s0_1 s0_2 a1 a2 = some (r1, r2, r3, r4)) :
  Calls Try.prog 22 #[.pointer (some ⟨g, 0, none⟩), .int .i64 a1, .int .i64 a2] w fun e w' => ∃ v1_ : Value, e = .returned (.agg #[.int .i64 r1, v1_]) ∧ Kd.R k75 75 w' w.heap.size (fun _ => True) v1_ r2 ∧ IsS78 w0 w' g s0_0 r3 r4 ∧ Below w0.heap.size w0 w' ∧ KeepBut w w' g none := by
 have hu26 := Try.underlying26
 have hu75 := Try.underlying75
 have HI0 := Aside0.mk hI
 have HK := Aside0.mk (KeepBut.refl w g none)
 have HL := Aside0.mk hB.size
 clear hI
 have HW0 := Aside0.mk hB.size
 have HB := Aside0.mk hB
 clear hB
 have H : ((spec_l00Src_pick.f s0_0 s0_1 s0_2 (wrap64 (a1 - 1))).bind fun bt533 => (spec_l30Draw.l0 k a2 1 s0_0 bt533.2.1 bt533.2.2 (wrap64 (2 + bt533.1)) ([] : List (S75)))) = some (r1, r2, r3, r4) := h
 clear h
 replace H := Option.bind_eq_some_iff.mp H
 obtain ⟨⟨t533, t534, t535⟩, A40, H⟩ := H
 replace H : (spec_l30Draw.l0 k a2 1 s0_0 t534 t535 (wrap64 (2 + t533)) ([] : List (S75))) = some (r1, r2, r3, r4) := H
 have A4 := Aside0.mk A40
 clear A40
 have H' := Aside0.mk H
 clear H
 go_enter Try.func22, Try.ntmps22
 go_wp2_with (first | ((with_reducible refine gate_dst (N := 6) rfl ?_); refine box_event ?hg (N := 6) ?hd (cs := #[.int .i64 0, .slice none 0 0]) (t := 26) ?hr ?_; (case hd => rfl); (case hg => rfl); (case hr => first | (go_simp; done) | (go_simp; rfl)); intro gb532 hg w5 hbox hb; have n0_ := Aside0.mk (IsS78.below (by repeat (first | (with_reducible first | exact HI0.out | apply IsS78.alloc | apply IsS78.drewN | apply IsS78.drew | apply IsS78.set_1 | apply IsS78.set_2) | exact HI0.out)) hb); have n1_ := Aside0.mk (KeepBut.trans (by repeat (first | (with_reducible first | exact HK.out | apply KeepBut.set_ | apply keep_drewN | apply keep_drew | apply keep_alloc) | exact HK.out)) (KeepBut.of_below hb g none) (.inl rfl)); have n2_ := Aside0.mk (below_step (by repeat (first | (with_reducible first | exact HB.out | apply below_alloc | apply pw_below_drewN | apply below_drew1 | refine below_set ?_ (IsS78.ge HI0.out)) | exact HB.out)) hb); have n3_ := Aside0.mk (hbox); have n4_ := Aside0.mk ((by rw [hg]; exact (keep_size (w := w) (g := g) (row := none) (by repeat (first | (with_reducible first | exact HK.out | apply KeepBut.set_ | apply keep_drewN | apply keep_drew | apply keep_alloc) | exact HK.out))) : w.heap.size ≤ gb532)); have n5_ := Aside0.mk ((Nat.le_trans HW0.out (by rw [hg]; exact (keep_size (w := w) (g := g) (row := none) (by repeat (first | (with_reducible first | exact HK.out | apply KeepBut.set_ | apply keep_drewN | apply keep_drew | apply keep_alloc) | exact HK.out))) : w.heap.size ≤ gb532) : w0.heap.size ≤ gb532)); have n6_ := Aside0.mk ((by rw [hg]; exact Nat.ne_of_lt (IsS78.lt (show IsS78 w0 _ g s0_0 s0_1 s0_2 from by repeat (first | (with_reducible first | exact HI0.out | apply IsS78.alloc | apply IsS78.drewN | apply IsS78.drew | apply IsS78.set_1 | apply IsS78.set_2) | exact HI0.out))) : g ≠ gb532)); have n7_ := Aside0.mk ((by rw [hg]; exact Nat.ne_of_gt (IsS78.lt (show IsS78 w0 _ g s0_0 s0_1 s0_2 from by repeat (first | (with_reducible first | exact HI0.out | apply IsS78.alloc | apply IsS78.drewN | apply IsS78.drew | apply IsS78.set_1 | apply IsS78.set_2) | exact HI0.out))) : gb532 ≠ g)); clear HI0; clear HK; clear HB; have HI0 := n0_; have HK := n1_; have HB := n2_; have BK532 := n3_; have GW532 := n4_; have GE532 := n5_; have NB0_532 := n6_; have NB532_0 := n7_; clear n0_ n1_ n2_ n3_ n4_ n5_ n6_ n7_; clear hb hbox hg) | ((with_reducible refine gate_callee (f := 41) rfl ?_); refine goesL_ (some 14) rfl rfl Try.func41 (by kernel_rfl) rfl #[.pointer (some ⟨g, 0, none⟩), .int .i64 (wrap64 (a1 - 1))] rfl mp_ ?_; (with_reducible refine (spec_l00Src_pick.calls g s0_0 s0_1 s0_2 (wrap64 (a1 - 1)) t533 t534 t535 w0 _ ?side1 ?side2 A4.out).mono ?_); (case side1 => repeat (first | (with_reducible first | exact HI0.out | apply IsS78.alloc | apply IsS78.drewN | apply IsS78.drew | apply IsS78.set_1 | apply IsS78.set_2 | refine IsS78.far ?_ NB0_532.out _) | exact HI0.out)); (case side2 => repeat (first | (with_reducible first | exact HB.out | apply below_alloc | apply pw_below_drewN | apply below_drew1 | refine below_set ?_ (IsS78.ge HI0.out) | refine below_set ?_ GE532.out) | exact HB.out)); rintro e w6 ⟨rfl, hi, hb, hk⟩; refine ⟨_, rfl, ?_⟩; have n0_ := Aside0.mk (KeepBut.blk hk (g' := gb532) (o := .cells #[.int .i64 0, .slice none 0 0] 26 (0, 0)) (bk_ BK532.out) NB532_0.out (by simp)); have n1_ := Aside0.mk (KeepBut.trans (by repeat (first | (with_reducible first | exact HK.out | apply KeepBut.set_ | apply keep_drewN | apply keep_drew | apply keep_alloc | refine keep_far ?_ GW532.out _) | exact HK.out)) hk (.inl rfl)); have n2_ := Aside0.mk (hb); have n3_ := Aside0.mk (hi); clear BK532; clear HK; clear HB; clear HI0; have BK532 := n0_; have HK := n1_; have HB := n2_; have HI0 := n3_; clear n0_ n1_ n2_ n3_; (try clear hb); (try clear hb2); (try clear hk); (try clear hi)) | ((with_reducible refine gate_dst (N := 7) rfl ?_); refine box_event ?hg (N := 7) ?hd (cs := #[.int .i64 0, .slice none 0 0]) (t := 26) ?hr ?_; (case hd => rfl); (case hg => rfl); (case hr => first | (go_simp; done) | (go_simp; rfl)); intro gb536 hg w7 hbox hb; have n0_ := Aside0.mk (IsS78.below (by repeat (first | (with_reducible first | exact HI0.out | apply IsS78.alloc | apply IsS78.drewN | apply IsS78.drew | apply IsS78.set_1 | apply IsS78.set_2 | refine IsS78.far ?_ NB0_532.out _) | exact HI0.out)) hb); have n1_ := Aside0.mk (blk_below (g := gb532) (o := .cells #[.int .i64 0, .slice none 0 0] 26 (0, 0)) (bk_ BK532.out) hb); have n2_ := Aside0.mk (KeepBut.trans (by repeat (first | (with_reducible first | exact HK.out | apply KeepBut.set_ | apply keep_drewN | apply keep_drew | apply keep_alloc | refine keep_far ?_ GW532.out _) | exact HK.out)) (KeepBut.of_below hb g none) (.inl rfl)); have n3_ := Aside0.mk (below_step (by repeat (first | (with_reducible first | exact HB.out | apply below_alloc | apply pw_below_drewN | apply below_drew1 | refine below_set ?_ (IsS78.ge HI0.out) | refine below_set ?_ GE532.out) | exact HB.out)) hb); have n4_ := Aside0.mk (hbox); have n5_ := Aside0.mk ((by rw [hg]; exact (keep_size (w := w) (g := g) (row := none) (by repeat (first | (with_reducible first | exact HK.out | apply KeepBut.set_ | apply keep_drewN | apply keep_drew | apply keep_alloc | refine keep_far ?_ GW532.out _) | exact HK.out))) : w.heap.size ≤ gb536)); have n6_ := Aside0.mk ((Nat.le_trans HW0.out (by rw [hg]; exact (keep_size (w := w) (g := g) (row := none) (by repeat (first | (with_reducible first | exact HK.out | apply KeepBut.set_ | apply keep_drewN | apply keep_drew | apply keep_alloc | refine keep_far ?_ GW532.out _) | exact HK.out))) : w.heap.size ≤ gb536) : w0.heap.size ≤ gb536)); have n7_ := Aside0.mk ((by rw [hg]; exact Nat.ne_of_lt (blk_lt (bk_ BK532.out)) : gb532 ≠ gb536)); have n8_ := Aside0.mk ((by rw [hg]; exact Nat.ne_of_gt (blk_lt (bk_ BK532.out)) : gb536 ≠ gb532)); have n9_ := Aside0.mk ((by rw [hg]; exact Nat.ne_of_lt (IsS78.lt (show IsS78 w0 _ g s0_0 t534 t535 from by repeat (first | (with_reducible first | exact HI0.out | apply IsS78.alloc | apply IsS78.drewN | apply IsS78.drew | apply IsS78.set_1 | apply IsS78.set_2 | refine IsS78.far ?_ NB0_532.out _) | exact HI0.out))) : g ≠ gb536)); have n10_ := Aside0.mk ((by rw [hg]; exact Nat.ne_of_gt (IsS78.lt (show IsS78 w0 _ g s0_0 t534 t535 from by repeat (first | (with_reducible first | exact HI0.out | apply IsS78.alloc | apply IsS78.drewN | apply IsS78.drew | apply IsS78.set_1 | apply IsS78.set_2 | refine IsS78.far ?_ NB0_532.out _) | exact HI0.out))) : gb536 ≠ g)); clear HI0; clear BK532; clear HK; clear HB; have HI0 := n0_; have BK532 := n1_; have HK := n2_; have HB := n3_; have BK536 := n4_; have GW536 := n5_; have GE536 := n6_; have NB532_536 := n7_; have NB536_532 := n8_; have NB0_536 := n9_; have NB536_0 := n10_; clear n0_ n1_ n2_ n3_ n4_ n5_ n6_ n7_ n8_ n9_ n10_; clear hb hbox hg; have hnb8 := NB536_532.out; have hnc8 := NB532_536.out; have hnb9 := NB536_0.out; have hnc9 := NB0_536.out; obtain ⟨hcz10_0, hcz10_1, hfz10_0, hfz10_1⟩ := cz2_ BK536.out))
 go_loopg [8] k (fun kq v8 w' => ∃ (x8_1 : Int) (x1001_1 : Int) (x1002_1 : Int) (x537001_1 : List (S75)) (u537001 : Value), v8 = .int .i64 x8_1 ∧ Aside0 (spec_l30Draw.l0 kq a2 x8_1 s0_0 x1001_1 x1002_1 (wrap64 (2 + t533)) x537001_1 = some (r1, r2, r3, r4)) ∧ Aside0 (kq ≤ k) ∧ Aside0 (Kd.R k75 75 w' w.heap.size (fun _ => True) u537001 x537001_1) ∧ Aside0 (w'.heap[gb532]? = some (.cells #[.int .i64 0, (.slice none 0 0)] 26 (0, 0))) ∧ Aside0 (w'.heap[gb536]? = some (.cells #[.int .i64 (wrap64 (2 + t533)), u537001] 26 (0, 0))) ∧ Aside0 (IsS78 w0 w' g s0_0 x1001_1 x1002_1) ∧ Aside0 (KeepBut w w' g none) ∧ Aside0 (Below w0.heap.size w0 w'))
 case atStart => exact ⟨(1), (t534), (t535), (([] : List (S75))), (.slice none 0 0), rs_, H', ⟨Nat.le_refl _⟩, ⟨by first | exact Kd.R_nil _ _ _ _ _ | exact Kd.N_nil _ _ _ _ _ | exact Kd.V_nil _ _ _ _ _ | exact Kd.Q_nil _ _ _ _ _ | exact Kd.S_nil _ _ _ _ _⟩, ⟨by (with_reducible repeat (first | refine blk_drewN ?_ _ | refine blk_drew ?_ | refine blk_alloc ?_ _)); refine blk_far ?_ NB532_536.out _; (with_reducible repeat (first | refine blk_drewN ?_ _ | refine blk_drew ?_ | refine blk_alloc ?_ _)); refine blk_far ?_ NB532_536.out _; (with_reducible repeat (first | refine blk_drewN ?_ _ | refine blk_drew ?_ | refine blk_alloc ?_ _)); exact BK532.out⟩, ⟨by (with_reducible repeat (first | refine blk_drewN ?_ _ | refine blk_drew ?_ | refine blk_alloc ?_ _)); refine blk_put (cs := #[.int .i64 (wrap64 (2 + t533)), .slice none 0 0]) ?_ 1 _ rfl; (with_reducible repeat (first | refine blk_drewN ?_ _ | refine blk_drew ?_ | refine blk_alloc ?_ _)); refine blk_put (cs := #[.int .i64 0, .slice none 0 0]) ?_ 0 _ rfl; (with_reducible repeat (first | refine blk_drewN ?_ _ | refine blk_drew ?_ | refine blk_alloc ?_ _)); exact BK536.out⟩, ⟨by repeat (first | (with_reducible first | exact HI0.out | apply IsS78.alloc | apply IsS78.drewN | apply IsS78.drew | apply IsS78.set_1 | apply IsS78.set_2 | refine IsS78.far ?_ NB0_532.out _ | refine IsS78.far ?_ NB0_536.out _) | exact HI0.out)⟩, ⟨by repeat (first | (with_reducible first | exact HK.out | apply KeepBut.set_ | apply keep_drewN | apply keep_drew | apply keep_alloc | refine keep_far ?_ GW532.out _ | refine keep_far ?_ GW536.out _) | exact HK.out)⟩, ⟨by repeat (first | (with_reducible first | exact HB.out | apply below_alloc | apply pw_below_drewN | apply below_drew1 | refine below_set ?_ (IsS78.ge HI0.out) | refine below_set ?_ GE532.out | refine below_set ?_ GE536.out) | exact HB.out)⟩⟩
 case round =>
  clear H'
  try clear c2
  try clear p2
  try clear c4
  try clear p6
  try clear c8
  try clear c9
  try clear hcz10_0
  try clear hcz10_1
  try clear hfz10_0
  try clear hfz10_1
  obtain ⟨x8_1, x1001_1, x1002_1, x537001_1, u537001, rfl, HA, HK1, HO_537001, BK532, BK536, HI0, HK, HB⟩ := hrel
  cases gk with
  | zero => exact absurd HA.out (by simp [spec_l30Draw.l0])
  | succ k1 =>
   have H := HA.out
   clear HA
   simp only [spec_l30Draw.l0] at H
   by_cases c11 : x8_1 < (wrap64 (2 + t533))
   ·rw [if_pos c11] at H
    have c11b0 := decide_eq_true c11
    clear c11
    replace H := Option.bind_eq_some_iff.mp H
    obtain ⟨⟨t537, t538, t539⟩, A120, H⟩ := H
    replace H : ((spec_l00Src_pick.f s0_0 t538 t539 a2).bind fun bt540 => ((spec_l30Put.f k1 x537001_1 t537 x8_1 (wrap64 (1 + bt540.1))).bind fun t543 => (spec_l30Draw.l0 k1 a2 (wrap64 (x8_1 + 1)) s0_0 bt540.2.1 bt540.2.2 (wrap64 (2 + t533)) t543))) = some (r1, r2, r3, r4) := H
    have A12 := Aside0.mk A120
    clear A120
    replace H := Option.bind_eq_some_iff.mp H
    obtain ⟨⟨t540, t541, t542⟩, A130, H⟩ := H
    replace H : ((spec_l30Put.f k1 x537001_1 t537 x8_1 (wrap64 (1 + t540))).bind fun t543 => (spec_l30Draw.l0 k1 a2 (wrap64 (x8_1 + 1)) s0_0 t541 t542 (wrap64 (2 + t533)) t543)) = some (r1, r2, r3, r4) := H
    have A13 := Aside0.mk A130
    clear A130
    replace H := Option.bind_eq_some_iff.mp H
    obtain ⟨t543, A140, H⟩ := H
    replace H : (spec_l30Draw.l0 k1 a2 (wrap64 (x8_1 + 1)) s0_0 t541 t542 (wrap64 (2 + t533)) t543) = some (r1, r2, r3, r4) := H
    have A14 := Aside0.mk A140
    clear A140
    have H' := Aside0.mk H
    clear H
    have hnb15 := NB536_532.out
    have hnc15 := NB532_536.out
    have hnb16 := NB536_0.out
    have hnc16 := NB0_536.out
    obtain ⟨hcz17_0, hcz17_1, hfz17_0, hfz17_1⟩ := cz2_ BK536.out
    go_wp2_with (first | ((with_reducible refine gate_callee (f := 41) rfl ?_); refine goesL_ (some 25) rfl rfl Try.func41 (by kernel_rfl) rfl #[.pointer (some ⟨g, 0, none⟩), .int .i64 x8_1] rfl mp_ ?_; (with_reducible refine (spec_l00Src_pick.calls g s0_0 x1001_1 x1002_1 x8_1 t537 t538 t539 w0 _ ?side1 ?side2 A12.out).mono ?_); (case side1 => repeat (first | (with_reducible first | exact HI0.out | apply IsS78.alloc | apply IsS78.drewN | apply IsS78.drew | apply IsS78.set_1 | apply IsS78.set_2 | refine IsS78.far ?_ NB0_532.out _ | refine IsS78.far ?_ NB0_536.out _) | exact HI0.out)); (case side2 => repeat (first | (with_reducible first | exact HB.out | apply below_alloc | apply pw_below_drewN | apply below_drew1 | refine below_set ?_ (IsS78.ge HI0.out) | refine below_set ?_ GE532.out | refine below_set ?_ GE536.out) | exact HB.out)); rintro e w18 ⟨rfl, hi, hb, hk⟩; refine ⟨_, rfl, ?_⟩; have n0_ := Aside0.mk (Kd.R_mono (Kd.R_keep (IsS78.apart (show IsS78 w0 _ g s0_0 x1001_1 x1002_1 from by repeat (first | (with_reducible first | exact HI0.out | apply IsS78.alloc | apply IsS78.drewN | apply IsS78.drew | apply IsS78.set_1 | apply IsS78.set_2 | refine IsS78.far ?_ NB0_532.out _ | refine IsS78.far ?_ NB0_536.out _) | exact HI0.out)) (ra_ HO_537001.out) (by decide)) hk (fun _ h => h.2)) (fun _ h => h.1)); have n1_ := Aside0.mk (KeepBut.blk hk (g' := gb532) (o := .cells #[.int .i64 0, .slice none 0 0] 26 (0, 0)) (bk_ BK532.out) NB532_0.out (by simp)); have n2_ := Aside0.mk (KeepBut.blk hk (g' := gb536) (o := .cells #[.int .i64 (wrap64 (2 + t533)), u537001] 26 (0, 0)) (bk_ BK536.out) NB536_0.out (by simp)); have n3_ := Aside0.mk (KeepBut.trans (by repeat (first | (with_reducible first | exact HK.out | apply KeepBut.set_ | apply keep_drewN | apply keep_drew | apply keep_alloc | refine keep_far ?_ GW532.out _ | refine keep_far ?_ GW536.out _) | exact HK.out)) hk (.inl rfl)); have n4_ := Aside0.mk (hb); have n5_ := Aside0.mk (hi); clear HO_537001; clear BK532; clear BK536; clear HK; clear HB; clear HI0; have HO_537001 := n0_; have BK532 := n1_; have BK536 := n2_; have HK := n3_; have HB := n4_; have HI0 := n5_; clear n0_ n1_ n2_ n3_ n4_ n5_; (try clear hb); (try clear hb2); (try clear hk); (try clear hi)) | ((with_reducible refine gate_callee (f := 41) rfl ?_); refine goesL_ (some 28) rfl rfl Try.func41 (by kernel_rfl) rfl #[.pointer (some ⟨g, 0, none⟩), .int .i64 a2] rfl mp_ ?_; (with_reducible refine (spec_l00Src_pick.calls g s0_0 t538 t539 a2 t540 t541 t542 w0 _ ?side1 ?side2 A13.out).mono ?_); (case side1 => repeat (first | (with_reducible first | exact HI0.out | apply IsS78.alloc | apply IsS78.drewN | apply IsS78.drew | apply IsS78.set_1 | apply IsS78.set_2 | refine IsS78.far ?_ NB0_532.out _ | refine IsS78.far ?_ NB0_536.out _) | exact HI0.out)); (case side2 => repeat (first | (with_reducible first | exact HB.out | apply below_alloc | apply pw_below_drewN | apply below_drew1 | refine below_set ?_ (IsS78.ge HI0.out) | refine below_set ?_ GE532.out | refine below_set ?_ GE536.out) | exact HB.out)); rintro e w19 ⟨rfl, hi, hb, hk⟩; refine ⟨_, rfl, ?_⟩; have n0_ := Aside0.mk (Kd.R_mono (Kd.R_keep (IsS78.apart (show IsS78 w0 _ g s0_0 t538 t539 from by repeat (first | (with_reducible first | exact HI0.out | apply IsS78.alloc | apply IsS78.drewN | apply IsS78.drew | apply IsS78.set_1 | apply IsS78.set_2 | refine IsS78.far ?_ NB0_532.out _ | refine IsS78.far ?_ NB0_536.out _) | exact HI0.out)) (ra_ HO_537001.out) (by decide)) hk (fun _ h => h.2)) (fun _ h => h.1)); have n1_ := Aside0.mk (KeepBut.blk hk (g' := gb532) (o := .cells #[.int .i64 0, .slice none 0 0] 26 (0, 0)) (bk_ BK532.out) NB532_0.out (by simp)); have n2_ := Aside0.mk (KeepBut.blk hk (g' := gb536) (o := .cells #[.int .i64 (wrap64 (2 + t533)), u537001] 26 (0, 0)) (bk_ BK536.out) NB536_0.out (by simp)); have n3_ := Aside0.mk (KeepBut.trans (by repeat (first | (with_reducible first | exact HK.out | apply KeepBut.set_ | apply keep_drewN | apply keep_drew | apply keep_alloc | refine keep_far ?_ GW532.out _ | refine keep_far ?_ GW536.out _) | exact HK.out)) hk (.inl rfl)); have n4_ := Aside0.mk (hb); have n5_ := Aside0.mk (hi); clear HO_537001; clear BK532; clear BK536; clear HK; clear HB; clear HI0; have HO_537001 := n0_; have BK532 := n1_; have BK536 := n2_; have HK := n3_; have HB := n4_; have HI0 := n5_; clear n0_ n1_ n2_ n3_ n4_ n5_; (try clear hb); (try clear hb2); (try clear hk); (try clear hi); obtain ⟨hcz20_0, hcz20_1, hfz20_0, hfz20_1⟩ := cz2_ BK536.out; obtain ⟨Ao21, co21, eo21⟩ := Kd.R_slice HO_537001.out; subst eo21) | ((with_reducible refine gate_callee (f := 42) rfl ?_); refine goesL_ (some 36) rfl rfl Try.func42 (by kernel_rfl) rfl #[.slice Ao21 x537001_1.length co21, .agg #[.int .i64 t537, .int .i64 x8_1, .int .i64 (wrap64 (1 + t540))]] rfl mp_ ?_; (with_reducible refine (spec_l30Put.calls k1 _ _ x537001_1 t537 x8_1 (wrap64 (1 + t540)) t543 _ ?side1 ?side2 A14.out).mono ?_); (case side1 => exact ca_ (Kd.R_reads' HO_537001.out).2.2); (case side2 => exact (Kd.R_reads' HO_537001.out).2.1); rintro e w22 ⟨v544, rfl, ho0, hb⟩; refine ⟨_, rfl, ?_⟩; have n0_ := Aside0.mk (Kd.R_elder' (ra_ HO_537001.out) (Kd.R_base ho0) hb); have n1_ := Aside0.mk (Kd.R_lower (Kd.R_new' ho0 (Kd.R_lt (ra_ HO_537001.out))) (keep_size (w := w) (g := g) (row := none) (by repeat (first | (with_reducible first | exact HK.out | apply KeepBut.set_ | apply keep_drewN | apply keep_drew | apply keep_alloc | refine keep_far ?_ GW532.out _ | refine keep_far ?_ GW536.out _) | exact HK.out)))); have n2_ := Aside0.mk (blk_below (g := gb532) (o := .cells #[.int .i64 0, .slice none 0 0] 26 (0, 0)) (bk_ BK532.out) hb); have n3_ := Aside0.mk (blk_below (g := gb536) (o := .cells #[.int .i64 (wrap64 (2 + t533)), .slice Ao21 x537001_1.length co21] 26 (0, 0)) (bk_ BK536.out) hb); have n4_ := Aside0.mk (IsS78.below (by repeat (first | (with_reducible first | exact HI0.out | apply IsS78.alloc | apply IsS78.drewN | apply IsS78.drew | apply IsS78.set_1 | apply IsS78.set_2 | refine IsS78.far ?_ NB0_532.out _ | refine IsS78.far ?_ NB0_536.out _) | exact HI0.out)) hb); have n5_ := Aside0.mk (KeepBut.trans (by repeat (first | (with_reducible first | exact HK.out | apply KeepBut.set_ | apply keep_drewN | apply keep_drew | apply keep_alloc | refine keep_far ?_ GW532.out _ | refine keep_far ?_ GW536.out _) | exact HK.out)) (KeepBut.of_below hb g none) (.inl rfl)); have n6_ := Aside0.mk (below_step (by repeat (first | (with_reducible first | exact HB.out | apply below_alloc | apply pw_below_drewN | apply below_drew1 | refine below_set ?_ (IsS78.ge HI0.out) | refine below_set ?_ GE532.out | refine below_set ?_ GE536.out) | exact HB.out)) hb); clear HO_537001; clear BK532; clear BK536; clear HI0; clear HK; clear HB; have HO_537001 := n0_; have HO545 := n1_; have BK532 := n2_; have BK536 := n3_; have HI0 := n4_; have HK := n5_; have HB := n6_; clear n0_ n1_ n2_ n3_ n4_ n5_ n6_; (try clear hb); (try clear hb2); (try clear hk); (try clear hi); (try clear ho0); obtain ⟨Ao23, co23, eo23⟩ := Kd.R_slice HO545.out; subst eo23; obtain ⟨hcz24_0, hcz24_1, hfz24_0, hfz24_1⟩ := cz2_ BK536.out))
    go_roundg k1
    case measure => have := HK1.out; omega
    case rel => exact ⟨(wrap64 (x8_1 + 1)), (t541), (t542), (t543), (.slice Ao23 t543.length co23), rs_, H', ⟨by have := HK1.out; omega⟩, ⟨by (with_reducible repeat (first | apply Kd.R_alloc | apply Kd.R_drewN | apply Kd.R_drew)); exact Kd.R_mono (Kd.R_far (p := ⟨gb536, 1, none⟩) (Kd.R_types HO545.out BK536.out (by decide)) (fun _ hk => hk.2) (.slice Ao23 t543.length co23)) (fun _ hk => trivial)⟩, ⟨by (with_reducible repeat (first | refine blk_drewN ?_ _ | refine blk_drew ?_ | refine blk_alloc ?_ _)); refine blk_far ?_ NB532_536.out _; (with_reducible repeat (first | refine blk_drewN ?_ _ | refine blk_drew ?_ | refine blk_alloc ?_ _)); exact BK532.out⟩, ⟨by (with_reducible repeat (first | refine blk_drewN ?_ _ | refine blk_drew ?_ | refine blk_alloc ?_ _)); refine blk_put (cs := #[.int .i64 (wrap64 (2 + t533)), .slice Ao21 x537001_1.length co21]) ?_ 1 _ rfl; (with_reducible repeat (first | refine blk_drewN ?_ _ | refine blk_drew ?_ | refine blk_alloc ?_ _)); exact BK536.out⟩, ⟨by repeat (first | (with_reducible first | exact HI0.out | apply IsS78.alloc | apply IsS78.drewN | apply IsS78.drew | apply IsS78.set_1 | apply IsS78.set_2 | refine IsS78.far ?_ NB0_532.out _ | refine IsS78.far ?_ NB0_536.out _) | exact HI0.out)⟩, ⟨by repeat (first | (with_reducible first | exact HK.out | apply KeepBut.set_ | apply keep_drewN | apply keep_drew | apply keep_alloc | refine keep_far ?_ GW532.out _ | refine keep_far ?_ GW536.out _) | exact HK.out)⟩, ⟨by repeat (first | (with_reducible first | exact HB.out | apply below_alloc | apply pw_below_drewN | apply below_drew1 | refine below_set ?_ (IsS78.ge HI0.out) | refine below_set ?_ GE532.out | refine below_set ?_ GE536.out) | exact HB.out)⟩⟩
   ·rw [if_neg c11] at H
    have c11b0 := decide_eq_false c11
    clear c11
    simp only [Option.some.injEq, Prod.mk.injEq] at H
    obtain ⟨rfl, rfl, rfl, rfl⟩ := H
    have hnb25 := NB536_532.out
    have hnc25 := NB532_536.out
    have hnb26 := NB536_0.out
    have hnc26 := NB0_536.out
    obtain ⟨hcz27_0, hcz27_1, hfz27_0, hfz27_1⟩ := cz2_ BK536.out
    have hnb28 := NB532_0.out
    have hnc28 := NB0_532.out
    obtain ⟨hcz29_0, hcz29_1, hfz29_0, hfz29_1⟩ := cz2_ BK532.out
    obtain ⟨Ao30, co30, eo30⟩ := Kd.R_slice HO_537001.out
    subst eo30
    go_wp2
    refine bodyPost_ret (results_cell_row rfl _ _ gb532 26 #[.int .i64 (wrap64 (2 + t533)), .slice Ao30 x537001_1.length co30] (0, 0) _ rfl (by (with_reducible repeat (first | refine blk_drewN ?_ _ | refine blk_drew ?_ | refine blk_alloc ?_ _)); refine blk_put (cs := #[.int .i64 (wrap64 (2 + t533)), .slice none 0 0]) ?_ 1 _ rfl; (with_reducible repeat (first | refine blk_drewN ?_ _ | refine blk_drew ?_ | refine blk_alloc ?_ _)); refine blk_put (cs := #[.int .i64 0, .slice none 0 0]) ?_ 0 _ rfl; (with_reducible repeat (first | refine blk_drewN ?_ _ | refine blk_drew ?_ | refine blk_alloc ?_ _)); exact BK532.out) Try.underlying26 rfl (by kernel_rfl)) rfl ?_
    exact ⟨_, re_, by (with_reducible repeat (first | apply Kd.R_alloc | apply Kd.R_drewN | apply Kd.R_drew)); exact Kd.R_mono (Kd.R_far (p := ⟨gb532, 1, none⟩) (Kd.R_far (p := ⟨gb532, 0, none⟩) (Kd.R_types HO_537001.out BK532.out (by decide)) (fun _ hk => hk.2) (.int .i64 (wrap64 (2 + t533)))) (fun _ hk => hk.2) (.slice Ao30 x537001_1.length co30)) (fun _ hk => trivial), by repeat (first | (with_reducible first | exact HI0.out | apply IsS78.alloc | apply IsS78.drewN | apply IsS78.drew | apply IsS78.set_1 | apply IsS78.set_2 | refine IsS78.far ?_ NB0_532.out _ | refine IsS78.far ?_ NB0_536.out _) | exact HI0.out), by repeat (first | (with_reducible first | exact HB.out | apply below_alloc | apply pw_below_drewN | apply below_drew1 | refine below_set ?_ (IsS78.ge HI0.out) | refine below_set ?_ GE532.out | refine below_set ?_ GE536.out) | exact HB.out), by repeat (first | (with_reducible first | exact HK.out | apply KeepBut.set_ | apply keep_drewN | apply keep_drew | apply keep_alloc | refine keep_far ?_ GW532.out _ | refine keep_far ?_ GW536.out _) | exact HK.out)⟩

/-! ### spec_l00From: function 23 -/
def spec_l00From.f (l0 : List Int) : Option (List Int × Int × Int) := some (l0, 0, 0)
set_option maxHeartbeats 8000000 in
set_option maxRecDepth 100000 in
theorem spec_l00From.calls (A0 : Option Addr) (c0 : Nat) (l0 : List Int) (r1 : List Int) (r2 : Int) (r3 : Int) (w0 w : World) (hB : Below w0.heap.size w0 w) (hr0 : Kd.C (Kd.int .u8) w0 A0 l0.length l0) (hc0 : l0.length ≤ c0) (h : spec_l00From.f l0 = some (r1, r2, r3)) :
  Calls Try.prog 23 #[.slice A0 l0.length c0] w fun e w' => ∃ g_ : Nat, e = .returned (.pointer (some ⟨g_, 0, none⟩)) ∧ IsS78 w0 w' g_ r1 r2 r3 ∧ Below w0.heap.size w0 w' ∧ Below w.heap.size w w' := by
 have hu78 := Try.underlying78
 have HR0 := Aside0.mk hr0
 have HC0 := Aside0.mk hc0
 clear hr0 hc0
 have HBW := Aside0.mk (Below.refl w.heap.size w)
 have HW0 := Aside0.mk hB.size
 have HB := Aside0.mk hB
 clear hB
 have H : (some (l0, 0, 0)) = some (r1, r2, r3) := h
 clear h
 simp only [Option.some.injEq, Prod.mk.injEq] at H
 obtain ⟨rfl, rfl, rfl⟩ := H
 go_enter Try.func23, Try.ntmps23
 go_wp2_with (first | ((with_reducible refine gate_dst (N := 5) rfl ?_); refine box_event ?hg (N := 5) ?hd (cs := #[.slice A0 l0.length c0, .int .i64 0, .int .u64 0]) (t := 78) ?hr ?_; (case hd => rfl); (case hg => rfl); (case hr => first | (go_simp; done) | (go_simp; rfl)); intro gb546 hg w2 hbox hb; have n0_ := Aside0.mk (below_step HBW.out hb); have n1_ := Aside0.mk (below_step (bl0_ HB.out) hb); have n2_ := Aside0.mk (hbox); have n3_ := Aside0.mk ((by rw [hg]; exact (below_size (by repeat (first | (with_reducible first | exact HBW.out | apply below_alloc | apply pw_below_drewN | apply below_drew1) | exact HBW.out))) : w.heap.size ≤ gb546)); have n4_ := Aside0.mk ((Nat.le_trans HW0.out (by rw [hg]; exact (below_size (by repeat (first | (with_reducible first | exact HBW.out | apply below_alloc | apply pw_below_drewN | apply below_drew1) | exact HBW.out))) : w.heap.size ≤ gb546) : w0.heap.size ≤ gb546)); clear HBW; clear HB; have HBW := n0_; have HB := n1_; have BK546 := n2_; have GW546 := n3_; have GE546 := n4_; clear n0_ n1_ n2_ n3_ n4_; clear hb hbox hg))
 go_ret
 exact ⟨_, rfl, (show IsS78 w0 _ gb546 l0 0 0 from ⟨_, _, by (with_reducible repeat (first | refine blk_drewN ?_ _ | refine blk_drew ?_ | refine blk_alloc ?_ _)); exact BK546.out, GE546.out, HR0.out⟩), by repeat (first | (with_reducible first | exact HB.out | apply below_alloc | apply pw_below_drewN | apply below_drew1 | refine below_set ?_ GE546.out) | exact HB.out), by repeat (first | (with_reducible first | exact HBW.out | apply below_alloc | apply pw_below_drewN | apply below_drew1 | refine below_set ?_ GW546.out) | exact HBW.out)⟩

/-! ### spec_A2Tree: function 7 -/
def spec_A2Tree.f (k : Nat) (l0 : List Int) (a1 : Int) (a2 : Int) : Option (Int × (List (S75))) := (spec_l00From.f l0).bind fun bt548 => ((spec_l30Draw.f k bt548.1 bt548.2.1 bt548.2.2 a1 a2).bind fun bt552 => (some (bt552.1, bt552.2.1)))
theorem spec_A2Tree.mono : ∀ a0 a1 a2 k, LeO (spec_A2Tree.f k a0 a1 a2) (spec_A2Tree.f (k + 1) a0 a1 a2) := by
 intro a0 a1 a2 k
 unfold spec_A2Tree.f
 repeat' first
   | (with_reducible exact spec_l30Draw.mono _ _ _ _ _ _)
   | (with_reducible exact LeO.refl _)
   | (with_reducible exact LeO.none _)
   | (with_reducible refine LeO.ite ?_ ?_)
   | (with_reducible refine LeO.bind ?_ (fun _ => ?_))
   | exact spec_l30Draw.mono _ _ _ _ _ _
   | exact LeO.none _
   | refine LeO.ite ?_ ?_
   | refine LeO.bind ?_ (fun _ => ?_)
set_option maxHeartbeats 8000000 in
set_option maxRecDepth 100000 in
theorem spec_A2Tree.calls (k : Nat) (A0 : Option Addr) (c0 : Nat) (l0 : List Int) (a1 : Int) (a2 : Int) (r1 : Int) (r2 : List (S75)) (w : World) (hr0 : Kd.C (Kd.int .u8) w A0 l0.length l0) (hc0 : l0.length ≤ c0) (h : spec_A2Tree.f k l0 a1 a2 = some (r1, r2)) :
  Calls Try.prog 7 #[.slice A0 l0.length c0, .int .i64 a1, .int .i64 a2] w fun e w' => ∃ v1_ : Value, e = .returned (.agg #[.int .i64 r1, v1_]) ∧ Kd.R k75 75 w' w.heap.size (fun _ => True) v1_ r2 ∧ Below w.heap.size w w' := by
 have hu26 := Try.underlying26
 have HR0 := Aside0.mk hr0
 have HC0 := Aside0.mk hc0
 clear hr0 hc0
 have HB := Aside0.mk (Below.refl w.heap.size w)
 have H : ((spec_l00From.f l0).bind fun bt548 => ((spec_l30Draw.f k bt548.1 bt548.2.1 bt548.2.2 a1 a2).bind fun bt552 => (some (bt552.1, bt552.2.1)))) = some (r1, r2) := h
 clear h
 replace H := Option.bind_eq_some_iff.mp H
 obtain ⟨⟨t548, t549, t550⟩, A40, H⟩ := H
 replace H : ((spec_l30Draw.f k t548 t549 t550 a1 a2).bind fun bt552 => (some (bt552.1, bt552.2.1))) = some (r1, r2) := H
 have A4 := Aside0.mk A40
 clear A40
 replace H := Option.bind_eq_some_iff.mp H
 obtain ⟨⟨t552, t553, t556, t557⟩, A50, H⟩ := H
 replace H : (some (t552, t553)) = some (r1, r2) := H
 have A5 := Aside0.mk A50
 clear A50
 simp only [Option.some.injEq, Prod.mk.injEq] at H
 obtain ⟨rfl, rfl⟩ := H
 go_enter Try.func7, Try.ntmps7
 go_wp2_with (first | ((with_reducible refine gate_dst (N := 6) rfl ?_); refine box_event ?hg (N := 6) ?hd (cs := #[.int .i64 0, .slice none 0 0]) (t := 26) ?hr ?_; (case hd => rfl); (case hg => rfl); (case hr => first | (go_simp; done) | (go_simp; rfl)); intro gb547 hg w6 hbox hb; have n0_ := Aside0.mk (below_step (bl0_ HB.out) hb); have n1_ := Aside0.mk (hbox); have n2_ := Aside0.mk ((by rw [hg]; exact (below_size (bl0_ HB.out)) : w.heap.size ≤ gb547)); have n3_ := Aside0.mk ((by rw [hg]; exact (below_size (bl0_ HB.out)) : w.heap.size ≤ gb547)); clear HB; have HB := n0_; have BK547 := n1_; have GW547 := n2_; have GE547 := n3_; clear n0_ n1_ n2_ n3_; clear hb hbox hg) | ((with_reducible refine gate_callee (f := 23) rfl ?_); refine goesL_ (some 8) rfl rfl Try.func23 (by kernel_rfl) rfl #[.slice A0 l0.length c0] rfl mp_ ?_; (with_reducible refine (spec_l00From.calls _ _ l0 t548 t549 t550 w _ ?side1 ?side2 ?side3 A4.out).mono ?_); (case side1 => repeat (first | (with_reducible first | exact HB.out | apply below_alloc | apply pw_below_drewN | apply below_drew1 | refine below_set ?_ GE547.out) | exact HB.out)); (case side2 => exact HR0.out); (case side3 => exact HC0.out); rintro e w7 ⟨g551, rfl, hi, hb, hb2⟩; refine ⟨_, rfl, ?_⟩; have n0_ := Aside0.mk (blk_below (g := gb547) (o := .cells #[.int .i64 0, .slice none 0 0] 26 (0, 0)) (bk_ BK547.out) hb2); have n1_ := Aside0.mk (hb); have n2_ := Aside0.mk (hi); have n3_ := Aside0.mk (IsS78.ne_blk hi (blk_below (g := gb547) (o := .cells #[.int .i64 0, .slice none 0 0] 26 (0, 0)) (bk_ BK547.out) hb2) (by decide)); have n4_ := Aside0.mk (Ne.symm (IsS78.ne_blk hi (blk_below (g := gb547) (o := .cells #[.int .i64 0, .slice none 0 0] 26 (0, 0)) (bk_ BK547.out) hb2) (by decide))); clear BK547; clear HB; have BK547 := n0_; have HB := n1_; have HI551 := n2_; have NB551_547 := n3_; have NB547_551 := n4_; clear n0_ n1_ n2_ n3_ n4_; (try clear hb); (try clear hb2); (try clear hk); (try clear hi)) | ((with_reducible refine gate_callee (f := 22) rfl ?_); refine goesL_ (some 11) rfl rfl Try.func22 (by kernel_rfl) rfl #[.pointer (some ⟨g551, 0, none⟩), .int .i64 a1, .int .i64 a2] rfl mp_ ?_; (with_reducible refine (spec_l30Draw.calls k g551 t548 t549 t550 a1 a2 t552 t553 t556 t557 w _ ?side1 ?side2 A5.out).mono ?_); (case side1 => repeat (first | (with_reducible first | exact HI551.out | apply IsS78.alloc | apply IsS78.drewN | apply IsS78.drew | apply IsS78.set_1 | apply IsS78.set_2 | refine IsS78.far ?_ NB551_547.out _) | exact HI551.out)); (case side2 => repeat (first | (with_reducible first | exact HB.out | apply below_alloc | apply pw_below_drewN | apply below_drew1 | refine below_set ?_ (IsS78.ge HI551.out) | refine below_set ?_ GE547.out) | exact HB.out)); rintro e w8 ⟨v554, rfl, ho0, hi, hb, hk⟩; refine ⟨_, rfl, ?_⟩; have n0_ := Aside0.mk (KeepBut.blk hk (g' := gb547) (o := .cells #[.int .i64 0, .slice none 0 0] 26 (0, 0)) (bk_ BK547.out) NB547_551.out (by simp)); have n1_ := Aside0.mk (Kd.R_lower ho0 (below_size (by repeat (first | (with_reducible first | exact HB.out | apply below_alloc | apply pw_below_drewN | apply below_drew1 | refine below_set ?_ (IsS78.ge HI551.out) | refine below_set ?_ GE547.out) | exact HB.out)))); have n2_ := Aside0.mk (hb); have n3_ := Aside0.mk (hi); clear BK547; clear HB; clear HI551; have BK547 := n0_; have HO555 := n1_; have HB := n2_; have HI551 := n3_; clear n0_ n1_ n2_ n3_; (try clear hb); (try clear hb2); (try clear hk); (try clear hi); (try clear ho0); have hnb9 := NB547_551.out; have hnc9 := NB551_547.out; obtain ⟨hcz10_0, hcz10_1, hfz10_0, hfz10_1⟩ := cz2_ BK547.out; obtain ⟨Ao11, co11, eo11⟩ := Kd.R_slice HO555.out; subst eo11))
 refine bodyPost_ret (results_cell_row rfl _ _ gb547 26 #[.int .i64 t552, .slice Ao11 t553.length co11] (0, 0) _ rfl (by (with_reducible repeat (first | refine blk_drewN ?_ _ | refine blk_drew ?_ | refine blk_alloc ?_ _)); refine blk_put (cs := #[.int .i64 t552, .slice none 0 0]) ?_ 1 _ rfl; (with_reducible repeat (first | refine blk_drewN ?_ _ | refine blk_drew ?_ | refine blk_alloc ?_ _)); refine blk_put (cs := #[.int .i64 0, .slice none 0 0]) ?_ 0 _ rfl; (with_reducible repeat (first | refine blk_drewN ?_ _ | refine blk_drew ?_ | refine blk_alloc ?_ _)); exact BK547.out) Try.underlying26 rfl (by kernel_rfl)) rfl ?_
 exact ⟨_, re_, by (with_reducible repeat (first | apply Kd.R_alloc | apply Kd.R_drewN | apply Kd.R_drew)); exact Kd.R_mono (Kd.R_far (p := ⟨gb547, 1, none⟩) (Kd.R_far (p := ⟨gb547, 0, none⟩) (Kd.R_types HO555.out BK547.out (by decide)) (fun _ hk => hk.2) (.int .i64 t552)) (fun _ hk => hk.2) (.slice Ao11 t553.length co11)) (fun _ hk => trivial), by repeat (first | (with_reducible first | exact HB.out | apply below_alloc | apply pw_below_drewN | apply below_drew1 | refine below_set ?_ (IsS78.ge HI551.out) | refine below_set ?_ GE547.out) | exact HB.out)⟩

/-! ### laws_a2Byte: function 8 -/
def laws_a2Byte.f (l0 : List Int) (a1 : Int) (a2 : Int) : Option (Int) := if a1 ≥ (l0.length : Int) then (some 0) else (if 0 ≤ a1 then (if a1 < (l0.length : Int) then (if a2 = 0 then (none) else (some (Int.tmod (wrap64 (rd l0 a1)) a2))) else (none)) else (none))
set_option maxHeartbeats 8000000 in
set_option maxRecDepth 100000 in
theorem laws_a2Byte.calls (A0 : Option Addr) (c0 : Nat) (l0 : List Int) (a1 : Int) (a2 : Int) (r : Int) (w : World) (hr0 : Kd.C (Kd.int .u8) w A0 l0.length l0) (hc0 : l0.length ≤ c0) (h : laws_a2Byte.f l0 a1 a2 = some r) :
  Calls Try.prog 8 #[.slice A0 l0.length c0, .int .i64 a1, .int .i64 a2] w fun e w' => e = .returned (.int .i64 r) ∧ Drawn0 w w' := by
 have HR0 := Aside0.mk hr0
 have HC0 := Aside0.mk hc0
 clear hr0 hc0
 have H : (if a1 ≥ (l0.length : Int) then (some 0) else (if 0 ≤ a1 then (if a1 < (l0.length : Int) then (if a2 = 0 then (none) else (some (Int.tmod (wrap64 (rd l0 a1)) a2))) else (none)) else (none))) = some r := h
 clear h
 by_cases c4 : a1 ≥ (l0.length : Int)
 ·rw [if_pos c4] at H
  have c4b0 : decide ((l0.length : Int) ≤ a1) = true := decide_eq_true c4
  clear c4
  obtain rfl := Option.some.inj H
  go_enter Try.func8, Try.ntmps8
  go_wp2
  go_ret
  exact ⟨by first | rfl | (simp; done) | (simp [*]; done), by repeat (first | exact Drawn0.refl _ | apply Drawn0.step)⟩
 ·rw [if_neg c4] at H
  have c4b0 : decide ((l0.length : Int) ≤ a1) = false := decide_eq_false c4
  clear c4
  by_cases c5 : 0 ≤ a1
  rotate_left
  ·exact nope_ c5 H
  rw [if_pos c5] at H
  have c5b0 := decide_eq_true c5
  clear c5
  by_cases c6 : a1 < (l0.length : Int)
  rotate_left
  ·exact nope_ c6 H
  rw [if_pos c6] at H
  have c6b0 := decide_eq_true c6
  clear c6
  by_cases c7 : a2 = 0
  ·rw [if_pos c7] at H
   exact absurd H (by simp)
  ·rw [if_neg c7] at H
   have c7b0 : (a2 == 0) = false := beq_eq_false_iff_ne.mpr c7
   have c7b1 : (a2 != 0) = true := bne_iff_ne.mpr c7
   obtain rfl := Option.some.inj H
   have p558 : 0 ≤ (a1 : Int) := od_
   have q558 : a1 < (l0.length : Int) := od_
   obtain ⟨ad558, e558, hx558_0⟩ := Kd.at_int HR0.out a1 p558 q558
   cases e558
   replace p558 := eq_true p558
   replace q558 := eq_true q558
   go_enter Try.func8, Try.ntmps8
   go_wp2
   go_ret
   exact ⟨by first | rfl | (simp; done) | (simp [*]; done), by repeat (first | exact Drawn0.refl _ | apply Drawn0.step)⟩

end Go.Proofs.Ytmckbecegiegaaa.A
